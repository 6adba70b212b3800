/- A slice of records that is read; corncriblaw12.made. -/
import Derived.Test.YtokfbikiicfafaaTe
namespace Go.Proofs.Ytokfbikiicfafaa
open Go.RowKit Go.Maps
set_option linter.unusedVariables false

def recCells (r : Rec) (v7 v8 : Value) : List Value := [.int .i64 r.kind, .int .i64 r.txn, .int .i64 r.ts, .int .i64 r.coord, .string r.key, .string r.text, .bool r.dead, v7, v8]
/-- A slice of records: each record's nine cells, its two lists. -/
def RdRecs (w : World) (ok : Nat → Prop) (A : Option Addr) (rs : List Rec) : Prop :=
  rs ≠ [] → ∃ b off, A = some ⟨b, off, none⟩ ∧ ok b ∧ b < w.heap.size ∧ ∀ j r, rs[j]? = some r → ∃ v7 v8, (∀ i u, (recCells r v7 v8)[i]? = some u → w.cell? ⟨b, off + j * 9 + i, none⟩ = some u) ∧ RdV 1 encS w ok v7 r.keys ∧ RdV 3 encWr w ok v8 r.writes
theorem RdRecs.move {w w' : World} {ok ok' : Nat → Prop} {A : Option Addr} {rs : List Rec} (h : RdRecs w ok A rs) (hm : ∀ b, ok b → b < w.heap.size → w'.heap[b]? = w.heap[b]?) (hs : w.heap.size ≤ w'.heap.size) (hk : ∀ b, ok b → b < w.heap.size → ok' b) : RdRecs w' ok' A rs := fun hne => by
  obtain ⟨b, off, e, ho, hl, hc⟩ := h hne
  refine ⟨b, off, e, hk b ho hl, Nat.lt_of_lt_of_le hl hs, fun j r hj => ?_⟩
  obtain ⟨v7, v8, h1, h2, h3⟩ := hc j r hj
  exact ⟨v7, v8, fun i u hu => by have := h1 i u hu; simpa [World.cell?, hm b ho hl] using this, h2.move hm hs hk, h3.move hm hs hk⟩
theorem RdRecs.below {w w' : World} {ok : Nat → Prop} {A : Option Addr} {rs : List Rec} (h : RdRecs w ok A rs) (hb : Below w.heap.size w w') : RdRecs w' ok A rs := h.move (fun b _ hl => hb.block b hl) hb.size (fun _ h _ => h)
def SmallRs (rs : List Rec) : Prop := ∀ r ∈ rs, r.keys.length * 16 ≤ 140737488351232 ∧ r.writes.length * 40 ≤ 140737488351232

def madeS (rs : List Rec) : ShS := (rs.take 60).foldl applyS ShS.none
theorem foldl_ok : ∀ (rs : List Rec) (S : ShS), StOk S → StOk (rs.foldl applyS S)
  | [], _, h => h
  | r :: rs, S, h => foldl_ok rs _ (h.apply r)
theorem madeS_ok (rs : List Rec) : StOk (madeS rs) := foldl_ok _ _ StOk.none
theorem take_succ_foldl {rs : List Rec} {k : Nat} {r : Rec} (h : rs[k]? = some r) (S : ShS) : (rs.take (k + 1)).foldl applyS S = applyS ((rs.take k).foldl applyS S) r := by
  have hk := (List.getElem?_eq_some_iff.1 h).1
  rw [List.take_add_one, h, Option.toList_some, List.foldl_append]
  rfl

/-- A new shelf that knows S. -/
def Made (w : World) (S : ShS) (e : Ending) (w' : World) : Prop := Below w.heap.size w w' ∧ ∃ p bk bq ev ok, e = .returned (.pointer (some ⟨p, 0, none⟩)) ∧ ShAt w' w.heap.size ok p bk bq ev S ∧ (∀ b, ok b → w.heap.size ≤ b)
set_option maxHeartbeats 4000000 in
set_option maxRecDepth 100000 in
theorem made_any (okA : Nat → Prop) (A : Option Addr) (c : Nat) (rs : List Rec) (w : World) (hz : RdRecs w okA A rs) (hsm : SmallRs rs) (hlen : rs.length ≤ 9223372036854775807) :
    Calls Try.prog 10 #[.slice A rs.length c] w (Made w (madeS rs)) := by
  have hNew := new_any (base := w.heap.size) (fun _ => False) w (Nat.le_refl _) (fun _ h => h.elim)
  have HZ := Lib.hid hz
  have HSM := Lib.hid hsm
  clear hz hsm
  go_enter Try.func10, Try.ntmps10
  go_wp2_with (go_at_call 32; refine hNew.mono ?_; rintro e w1 ⟨rfl, sh1, hb1⟩; have SH1 := Lib.hid sh1; have HB1 := Lib.hid hb1; clear sh1 hb1)
  go_loopg [4] rs.length (fun gg s4 wr => ∃ kk : Nat, kk ≤ rs.length ∧ kk ≤ 60 ∧ rs.length - kk ≤ gg ∧ s4 = .int .i64 kk ∧ Aside (Below w.heap.size w wr ∧ ∃ ev ok, ShAt wr w.heap.size ok (w.heap.size + 2) w.heap.size (w.heap.size + 1) ev ((rs.take kk).foldl applyS ShS.none) ∧ (∀ b, ok b → w.heap.size ≤ b)))
  case atStart => exact ⟨0, Nat.zero_le _, by omega, by omega, rfl, (show Aside _ from ⟨HB1.out, _, _, SH1.out, fun b h => h.elim⟩)⟩
  case round =>
    obtain ⟨kk, hkk, h60, hg, rfl, F⟩ := hrel
    by_cases hlt : kk < rs.length
    · have hltz : (kk : Int) < (rs.length : Int) := by omega
      by_cases h6 : kk < 60
      · have h6z : (kk : Int) < 60 := by omega
        obtain ⟨r, hr⟩ : ∃ r, rs[kk]? = some r := ⟨_, List.getElem?_eq_getElem hlt⟩
        obtain ⟨BW, ev, ok, sh, hok⟩ := F.out
        obtain ⟨b, off, e, _, _, hc⟩ := HZ.out.below BW (by intro h; simp [h] at hlt)
        subst e
        obtain ⟨v7, v8, hcell, ⟨A7, c7, e7, _, _, s7⟩, ⟨A8, c8, e8, _, _, s8⟩⟩ := hc kk r hr
        subst e7
        subst e8
        obtain ⟨hb1', hb2'⟩ := HSM.out r (List.mem_of_getElem? hr)
        have hA := apply_any A7 A8 c7 c8 r wr sh (foldl_ok _ _ StOk.none) s7 s8 hb1' hb2' BW.size
        have l0 := hcell 0 _ rfl
        have l1 := hcell 1 _ rfl
        have l2 := hcell 2 _ rfl
        have l3 := hcell 3 _ rfl
        have l4 := hcell 4 _ rfl
        have l5 := hcell 5 _ rfl
        have l6 := hcell 6 _ rfl
        have l7 := hcell 7 _ rfl
        have l8 := hcell 8 _ rfl
        rw [Nat.add_zero] at l0
        have HR := Lib.hid hr
        have D := Lib.hid (And.intro BW (And.intro sh hok))
        clear hc hcell hr F BW sh hok s7 s8
        go_wp2_with (go_at_call 13; refine hA.mono ?_; rintro e w2 ⟨rfl, hT⟩; have HT := Lib.hid hT; clear hT)
        go_roundg (rs.length - (kk + 1))
        case measure => omega
        case rel =>
          refine ⟨kk + 1, by omega, by omega, by omega, by go_num, (show Aside _ from ?_)⟩
          obtain ⟨BW, sh, hok⟩ := D.out
          have hb := below_of_turned BW sh (Nat.le_refl _) HT.out
          obtain ⟨ok', ev', sh', _, g1, _⟩ := HT.out
          refine ⟨hb, ev', ok', ?_, fun b hb' => ?_⟩
          · rw [take_succ_foldl HR.out]
            exact sh'
          · rcases g1 b hb' with h1 | h1
            · exact hok b h1
            · exact Nat.le_trans BW.size h1
      · have h6z : ¬ (kk : Int) < 60 := by omega
        have hk6 : kk = 60 := by omega
        have HF : Hid (Below w.heap.size w wr ∧ ∃ ev ok, ShAt wr w.heap.size ok (w.heap.size + 2) w.heap.size (w.heap.size + 1) ev (madeS rs) ∧ (∀ b, ok b → w.heap.size ≤ b)) := by
          have := F.out
          rw [hk6] at this
          exact this
        clear F hk6
        go_wp2
        go_ret
        obtain ⟨h1, ev, ok, h2, h3⟩ := HF.out
        exact ⟨h1, _, _, _, ev, ok, rfl, h2, h3⟩
    · have hltz : ¬ (kk : Int) < (rs.length : Int) := by omega
      have HF : Hid (Below w.heap.size w wr ∧ ∃ ev ok, ShAt wr w.heap.size ok (w.heap.size + 2) w.heap.size (w.heap.size + 1) ev (madeS rs) ∧ (∀ b, ok b → w.heap.size ≤ b)) := by
        have := F.out
        have e1 : rs.take kk = rs.take 60 := by rw [List.take_of_length_le (by omega), List.take_of_length_le (by omega)]
        rw [e1] at this
        exact this
      clear F
      go_wp2
      go_ret
      obtain ⟨h1, ev, ok, h2, h3⟩ := HF.out
      exact ⟨h1, _, _, _, ev, ok, rfl, h2, h3⟩
end Go.Proofs.Ytokfbikiicfafaa
