/- Walks that read a shelf: writes, Contains, Held, State, Last, Read, Swept; New. -/
import Derived.Test.YtokfbikiicfafaaSj
namespace Go.Proofs.Ytokfbikiicfafaa
open Go.RowKit Go.Maps
set_option linter.unusedVariables false

/-- Two texts are one just where their bytes are. -/
def eqS (a b : ByteArray) : Bool := a.toList == b.toList

def writesKey (r : Rec) (key : ByteArray) : Bool := r.writes.any (fun x => eqS x.key key)

theorem writes_c (x : Wr) (key : ByteArray) (B : Nat) (W : World) (hk : W.cell? ⟨B, 0, none⟩ = some (.string key)) :
    Calls Try.prog 108 #[.agg #[.string x.key, .string x.sh, .bool x.dead], .pointer (some ⟨B, 0, none⟩)] W fun e w' => e = .returned (.bool (eqS x.key key)) ∧ Below W.heap.size W w' := by
  have hB : B < W.heap.size := World.block_lt_of_cell? W _ hk
  go_enter Try.func108, Try.ntmps108
  go_wp2
  go_ret
  exact ⟨rfl, (Below.refl _ _).alloc (Nat.le_refl _) _⟩

set_option maxHeartbeats 1000000 in
theorem shwrites_any (ok : Nat → Prop) (A A2 : Option Addr) (c c2 : Nat) (r : Rec) (key : ByteArray) (w : World) (hz2 : RdSl 3 encWr w ok A2 r.writes) (hb2 : r.writes.length ≤ 9223372036854775807) :
    Calls Try.prog 67 #[.agg #[.int .i64 r.kind, .int .i64 r.txn, .int .i64 r.ts, .int .i64 r.coord, .string r.key, .string r.text, .bool r.dead, .slice A r.keys.length c, .slice A2 r.writes.length c2], .string key] w
      fun e w' => e = .returned (.bool (writesKey r key)) ∧ Below w.heap.size w w' := by
  have hC := fun (W : World) (hW : Below w.heap.size w W) (B : Nat) (hB : W.cell? ⟨B, 0, none⟩ = some (.string key)) =>
    containsFunc_wr (fun x => eqS x.key key) 108 #[.pointer (some ⟨B, 0, none⟩)] (enters_of Try.func108 (by kernel_rfl) rfl) ok A2 c2 r.writes W
      (fun W2 x hx hB2 => (writes_c x key B W2 (cell_later hB2 hB)).mono fun _ _ ⟨a, b⟩ => ⟨a, below_thru hB2 b⟩) (hz2.below hW) hb2
  clear hz2
  go_enter Try.func67, Try.ntmps67
  go_wp2_with (go_at_call 78; refine (hC _ ?_ _ ?_).mono ?_)
  · exact ((Below.refl _ _).alloc (Nat.le_refl _) _).alloc (by simp) _
  · exact cell_blk (alloc_blk (by simp)) rfl
  · rintro e w' ⟨rfl, hb⟩
    go_wp2
    go_ret
    exact ⟨rfl, below_thru (((Below.refl _ _).alloc (Nat.le_refl _) _).alloc (by simp) _) hb⟩

set_option maxHeartbeats 1000000 in
theorem index_str (v : ByteArray) (ok : Nat → Prop) (A : Option Addr) (c : Nat) (zs : List ByteArray) (w : World) (hz : RdSl 1 encS w ok A zs) (hbig : zs.length ≤ 9223372036854775807) :
    Calls Try.prog 109 #[.slice A zs.length c, .string v] w fun e w' => e = .returned (.int .i64 (idxOf (fun x => eqS v x) zs)) ∧ w = w' := by
  have HZ := Lib.hid hz
  clear hz
  go_enter Try.func109, Try.ntmps109
  go_wp2
  go_loopg [5, 8] zs.length (fun gg _ s8 wr => ∃ kk : Nat, kk ≤ zs.length ∧ zs.length - kk ≤ gg ∧ s8 = .int .i64 kk ∧ w = wr ∧ Aside (∀ (j : Nat) (y : ByteArray), j < kk → zs[j]? = some y → eqS v y = false))
  case atStart => exact ⟨0, Nat.zero_le _, by omega, rfl, rfl, fun j y hj => absurd hj (Nat.not_lt_zero _)⟩
  case round =>
    obtain ⟨kk, hkk, hg, rfl, rfl, F⟩ := hrel
    by_cases hlt : kk < zs.length
    · have hltz : (kk : Int) < (zs.length : Int) := by omega
      obtain ⟨x, hx⟩ : ∃ x, zs[kk]? = some x := ⟨_, List.getElem?_eq_getElem hlt⟩
      obtain ⟨b, off, e, _, hb, hc⟩ := HZ.out (by intro h; simp [h] at hlt)
      subst e
      have l0 := hc kk x hx 0 _ rfl
      rw [Nat.add_zero, Nat.mul_one] at l0
      have HX := Lib.hid hx
      clear hc hx
      cases hq : eqS v x with
      | true =>
        have d : (v.toList == x.toList) = true := hq
        have HQ := Lib.hid hq
        clear hq
        go_wp2
        go_ret
        exact ⟨by rw [idxOf_hit (p := fun x => eqS v x) HX.out HQ.out F.out]; rfl, rfl⟩
      | false =>
        have d : (v.toList == x.toList) = false := hq
        have HQ := Lib.hid hq
        clear hq
        go_wp2
        go_roundg (zs.length - (kk + 1))
        case measure => omega
        case rel =>
          refine ⟨kk + 1, by omega, by omega, by go_num, rfl, (show Aside _ from fun j y hj hy => ?_)⟩
          by_cases e : j = kk
          · subst e
            rw [HX.out] at hy
            cases hy
            exact HQ.out
          · exact F.out j y (by omega) hy
    · have hltz : ¬ (kk : Int) < (zs.length : Int) := by omega
      have : kk = zs.length := by omega
      subst this
      go_wp2
      go_ret
      exact ⟨by rw [idxOf_miss (p := fun x => eqS v x) (fun j y hy => F.out j y (List.getElem?_eq_some_iff.1 hy).1 hy)]; rfl, rfl⟩

theorem contains_str (v : ByteArray) (ok : Nat → Prop) (A : Option Addr) (c : Nat) (zs : List ByteArray) (w : World) (hz : RdSl 1 encS w ok A zs) (hbig : zs.length ≤ 9223372036854775807) :
    Calls Try.prog 68 #[.slice A zs.length c, .string v] w fun e w' => e = .returned (.bool (zs.any (fun x => eqS v x))) ∧ w = w' := by
  have hc := index_str v ok A c zs w hz hbig
  have HA := Lib.hid (idxOf_any (fun x => eqS v x) zs)
  clear hz
  go_enter Try.func68, Try.ntmps68
  go_wp2_with (go_at_call 109; refine hc.mono ?_; rintro e w' ⟨rfl, rfl⟩)
  go_ret
  exact ⟨by rw [← HA.out]; rfl, rfl⟩

/-- Does a prepared transaction hold a key; or, for one who would write, watch it? -/
def hit (key : ByteArray) (write : Bool) (r : Rec) : Bool := writesKey r key || (write && r.keys.any (fun x => eqS key x))
def heldIn (P : DataW Rec) (p : Rec → Bool) : Bool := match P with | .map es => es.any (fun e => match e.2 with | .held r => p r | _ => false) | _ => false

theorem entry_at {H : Type} {es : List (Lit × DataW H)} (hp : es.Pairwise (fun p q => p.1 ≠ q.1)) (hk : ∀ p ∈ es, WideAt.IsKeyLit p.1) {e : Lit × DataW H} (he : e ∈ es) : Maps.has (.map es) e.1 = true ∧ ∀ z, (DataW.map es).atKey e.1 z = e.2 := by
  refine ⟨List.any_eq_true.2 ⟨e, he, WideAt.sameKey_self (hk e he)⟩, fun z => ?_⟩
  have : es.find? (fun p => p.1.sameKey e.1) = some e := by
    induction es with
    | nil => cases he
    | cons a l ih =>
      obtain ⟨h1, h2⟩ := List.pairwise_cons.1 hp
      rcases List.mem_cons.1 he with rfl | he'
      · rw [List.find?_cons, WideAt.sameKey_self (hk _ List.mem_cons_self)]
      · have hne : a.1.sameKey e.1 = false := Maps.sameKey_ne (h1 e he')
        rw [List.find?_cons, hne]
        exact ih h2 (fun p hp => hk p (List.mem_cons_of_mem _ hp)) he'
  simp [DataW.atKey, this]

theorem at_entry {H : Type} {es : List (Lit × DataW H)} {kl : Lit} (hh : Maps.has (.map es) kl = true) : ∃ e ∈ es, e.1 = kl ∧ ∀ z, (DataW.map es).atKey kl z = e.2 := by
  obtain ⟨p, hp, hs⟩ := List.any_eq_true.1 hh
  cases hf : es.find? (fun p => p.1.sameKey kl) with
  | none =>
    have := List.find?_eq_none.1 hf p hp
    exact absurd hs this
  | some e =>
    exact ⟨e, List.mem_of_find?_eq_some hf, WideAt.sameKey_eq (by simpa using List.find?_some hf), fun z => by simp [DataW.atKey, hf]⟩

theorem heldIn_true {P : DataW Rec} {p : Rec → Bool} {kl : Lit} {r : Rec} (hm : Maps.IsMap P) (hh : Maps.has P kl = true) (ha : ∀ z, P.atKey kl z = .held r) (hp : p r = true) : heldIn P p = true := by
  obtain ⟨es, rfl⟩ := hm
  obtain ⟨e, he, _, hat⟩ := at_entry hh
  have : e.2 = .held r := (hat .nil).symm.trans (ha .nil)
  exact List.any_eq_true.2 ⟨e, he, by rw [this]; exact hp⟩
theorem heldIn_false {P : DataW Rec} {p : Rec → Bool} {k : TypeId} {R : Value → Option (DataW Rec × List MemPlace)} {w : World} {b n : Nat} {Pr : Program} (ho : w.ownsMap Pr k R b n P) (K : Keyed Pr k) (h : ∀ kl r, Maps.has P kl = true → (∀ z, P.atKey kl z = .held r) → p r = false) : heldIn P p = false := by
  obtain ⟨es, rfl, hp, hk⟩ := ho.entries K
  refine List.any_eq_false.2 fun e he => ?_
  obtain ⟨h1, h2⟩ := entry_at hp hk he
  obtain ⟨l, d⟩ := e
  cases d with
  | held r => simpa using h l r h1 h2
  | _ => simp

theorem ranges_below {H : Type} {P : Program} {k : TypeId} {R : Value → Option (DataW H × List MemPlace)} {w w' : World} {b r n : Nat} {D : DataW H} {left : Lit → Bool} {cnt : Nat} (h : w.ranges P k R b r n D left cnt) (hb : Below w.heap.size w w') : w'.ranges P k R b r n D left cnt :=
  h.kept (row := none) ⟨hb.os, hb.tape, hb.output, hb.size, fun i hi _ => hb.block i hi⟩ (by simp) (by simp)

set_option maxHeartbeats 8000000 in
set_option maxRecDepth 100000 in
theorem held_any {base : Nat} {ok : Nat → Prop} {p bk bq : Nat} {ev : Value} {S : ShS} (key : ByteArray) (write : Bool) (w : World) (h : ShAt w base ok p bk bq ev S) (hsm : ∀ kl r, (∀ z, S.P.atKey kl z = .held r) → r.keys.length ≤ 16 ∧ r.writes.length ≤ 16) :
    Calls Try.prog 31 #[.pointer (some ⟨p, 0, none⟩), .string key, .bool write] w fun e w' => e = .returned (.bool (heldIn S.P (hit key write))) ∧ Below w.heap.size w w' := by
  have c1 := cell_blk (i := 1) (u := .map (some bq)) h.blk rfl
  have H := Lib.hid h
  have hP := h.preps
  clear h
  go_enter Try.func31, Try.ntmps31
  go_wp2_with (first
    | (at_range; refine wpList_range_own _ rfl _ 75 rfl 3 35 lawI Try.underlying75 _ bq _ _ rfl hP ?_; intro w0 hrg0 hg0 hs0))
  go_frame
  have hb0 : Below w.heap.size w w0 := ⟨hg0.os, hg0.tape, hg0.output, hg0.size, fun k hk => hg0.block k hk (by simp)⟩
  go_loopw [14] (fun _ wr => ∃ left cnt, wr.ranges Try.prog 3 (RdP w ok) bq w.heap.size (Maps.size S.P) S.P left cnt ∧ Aside (Below w.heap.size w wr) ∧ Aside (∀ kl r, Maps.has S.P kl = true → left kl = false → (∀ z, S.P.atKey kl z = .held r) → hit key write r = false))
    (fun _ wr => wr.rangeLeft bq w.heap.size)
  case atStart => exact ⟨_, _, hrg0, hb0, (show Aside _ from fun kl r h1 h2 => by rw [h1] at h2; cases h2)⟩
  case round =>
    obtain ⟨left, cnt, hrg, BW, F⟩ := hrel
    go_wp2_with (first
      | (at_next; refine wpList_next_ranges _ rfl _ rfl 3 lawI (RdP w ok) (Value.int .i64) (fun v : Value => v) (fun kk kl hk => by obtain ⟨x, hx, _⟩ := Maps.keyOf_int_inv Try.underlying3 hk; exact ⟨x, hx⟩) (fun v y _ => ⟨v, rfl⟩) bq w.heap.size (Maps.size S.P) S.P left cnt rfl hrg ?_ ?_)
      | (go_at_call 67; fail))
    · intro hc0 hl0
      go_wp2
      go_ret
      exact ⟨by rw [heldIn_false H.out.preps lawI (fun kl r h1 h2 => F.out kl r h1 (hl0 kl) h2)]; rfl, BW.out⟩
    · intro x v kl yd yp w2 cnt2 hkey hlk hv hat hrg2 hlt hg2 hs2 hen
      obtain ⟨r, hr, ez⟩ := RdP_inv hv
      obtain ⟨rfl, rfl⟩ := Prod.mk.inj ez
      obtain ⟨v7, v8, e, ⟨A7, c7, e7, _, _, s7⟩, ⟨A8, c8, e8, _, _, s8⟩⟩ := hr
      subst e7
      subst e8
      unfold recVal at e
      subst e
      obtain ⟨hk16, hw16⟩ := hsm kl r hat
      have hw2 := Lib.hid (BW.out.grown hg2 BW.out.size (fun k hk => by cases hk; exact Nat.le_refl _))
      have hWr := fun (W : World) (hW : Below w.heap.size w W) => shwrites_any ok A7 A8 c7 c8 r key W (s8.below hW) (by omega)
      have hCo := fun (W : World) (hW : Below w.heap.size w W) => contains_str key ok A7 c7 r.keys W (s7.below hW) (by omega)
      have hcnt := Lib.hid hrg.left_eq
      have hyes : hit key write r = true → Hid (heldIn S.P (hit key write) = true) := fun hh => heldIn_true H.out.preps.isMap (Maps.has_true_of_atKey hat) hat hh
      have hnext : hit key write r = false → ∀ kl2 r2, Maps.has S.P kl2 = true → (left kl2 && !kl2.sameKey kl) = false → (∀ z, S.P.atKey kl2 z = .held r2) → hit key write r2 = false := fun hh kl2 r2 h1 h2 h3 => by
        by_cases hl2 : left kl2 = false
        · exact F.out kl2 r2 h1 hl2 h3
        · have : kl2.sameKey kl = true := by
            have hlt2 : left kl2 = true := by simpa using hl2
            rw [hlt2] at h2
            simpa using h2
          obtain rfl := WideAt.sameKey_eq this
          have e2 : DataW.held r2 = DataW.held r := (h3 .nil).symm.trans (hat .nil)
          cases e2
          exact hh
      replace hrg2 := Lib.hid hrg2
      clear hs2 hrg F hv hkey hlk hat s7 s8 hg2 hsm hP
      cases hwk : writesKey r key with
      | true =>
        have hy := hyes (by unfold hit; rw [hwk]; rfl)
        rw [hwk] at hWr
        clear hyes hnext hwk
        go_wp2_with (first | (go_at_call 67; refine (hWr _ ?_).mono ?_; (exact hw2.out.alloc hw2.out.size _); rintro e w3 ⟨rfl, hb3⟩; have hw3 := Lib.hid (below_thru (hw2.out.alloc hw2.out.size _) hb3); have hr3 := Lib.hid (ranges_below (hrg2.out.alloc _) hb3); have kx7 := cell_blk (i := 7) (cellsLater hb3 (alloc_blk rfl)) rfl))
        go_ret
        exact ⟨by rw [hy.out]; rfl, hw3.out⟩
      | false =>
        rw [hwk] at hWr
        cases write with
        | false =>
          have HH := Lib.hid (show hit key false r = false by unfold hit; rw [hwk]; rfl)
          clear hyes hwk
          go_wp2_with (first | (go_at_call 67; refine (hWr _ ?_).mono ?_; (exact hw2.out.alloc hw2.out.size _); rintro e w3 ⟨rfl, hb3⟩; have hw3 := Lib.hid (below_thru (hw2.out.alloc hw2.out.size _) hb3); have hr3 := Lib.hid (ranges_below (hrg2.out.alloc _) hb3); have kx7 := cell_blk (i := 7) (cellsLater hb3 (alloc_blk rfl)) rfl))
          go_roundw
          case rel => exact ⟨_, cnt2, hr3.out, hw3.out, (show Aside _ from fun kl2 r2 h1 h2 h3 => hnext HH.out kl2 r2 h1 h2 h3)⟩
          case measure => rw [hr3.out.left_eq, hcnt.out]; exact hlt
        | true =>
          cases hco : r.keys.any (fun x => eqS key x) with
          | true =>
            rw [hco] at hCo
            have hy := hyes (by unfold hit; rw [hwk, hco]; rfl)
            clear hyes hnext hwk hco
            go_wp2_with (first | (go_at_call 67; refine (hWr _ ?_).mono ?_; (exact hw2.out.alloc hw2.out.size _); rintro e w3 ⟨rfl, hb3⟩; have hw3 := Lib.hid (below_thru (hw2.out.alloc hw2.out.size _) hb3); have hr3 := Lib.hid (ranges_below (hrg2.out.alloc _) hb3); have kx7 := cell_blk (i := 7) (cellsLater hb3 (alloc_blk rfl)) rfl) | (go_at_call 68; refine (hCo _ hw3.out).mono ?_; rintro e w4 ⟨rfl, rfl⟩))
            go_ret
            exact ⟨by rw [hy.out]; rfl, hw3.out⟩
          | false =>
            rw [hco] at hCo
            have HH := Lib.hid (show hit key true r = false by unfold hit; rw [hwk, hco]; rfl)
            clear hyes hwk hco
            go_wp2_with (first | (go_at_call 67; refine (hWr _ ?_).mono ?_; (exact hw2.out.alloc hw2.out.size _); rintro e w3 ⟨rfl, hb3⟩; have hw3 := Lib.hid (below_thru (hw2.out.alloc hw2.out.size _) hb3); have hr3 := Lib.hid (ranges_below (hrg2.out.alloc _) hb3); have kx7 := cell_blk (i := 7) (cellsLater hb3 (alloc_blk rfl)) rfl) | (go_at_call 68; refine (hCo _ hw3.out).mono ?_; rintro e w4 ⟨rfl, rfl⟩))
            go_roundw
            case rel => exact ⟨_, cnt2, hr3.out, hw3.out, (show Aside _ from fun kl2 r2 h1 h2 h3 => hnext HH.out kl2 r2 h1 h2 h3)⟩
            case measure => rw [hr3.out.left_eq, hcnt.out]; exact hlt
end Go.Proofs.Ytokfbikiicfafaa
