/- shelf.put: each write's version behind its key's chain. -/
import Derived.Test.YtokfbikiicfafaaSt
namespace Go.Proofs.Ytokfbikiicfafaa
open Go.RowKit Go.Maps
set_option linter.unusedVariables false

def putOne (K : DataW (List Ver)) (x : Wr) (ts : Int) : DataW (List Ver) := K.put (.string x.key.data.toList) (.held (chain K x.key ++ [⟨ts, x.sh, x.dead⟩]))
def putS (K : DataW (List Ver)) : List Wr → Int → DataW (List Ver)
  | [], _ => K
  | x :: l, ts => putS (putOne K x ts) l ts
def PutOk (K : DataW (List Ver)) : List Wr → Int → Prop
  | [], _ => True
  | x :: l, ts => (ChainOk (chain K x.key) ∧ VerOk ⟨ts, x.sh, x.dead⟩ ∧ (chain K x.key).length < 1024 ∧ lastTs (chain K x.key) < ts ∧ x.key.size ≤ maxLen ∧ Maps.size K < maxLen) ∧ PutOk (putOne K x ts) l ts

/-- One writing more. -/
theorem Turned.next {w wr w5 : World} {base : Nat} {ok ok1 ok2 : Nat → Prop} {p bk bq : Nat} {ev ev1 ev2 : Value} {S2 : ShS} (f1 : Frm w wr (Mut p bk bq ev)) (g1 : ∀ b, ok1 b → ok b ∨ w.heap.size ≤ b) (i1 : ∀ b, ok b → ok1 b) (j1 : ∀ k, ev1.ownBlock = some k → ev.ownBlock = some k ∨ w.heap.size ≤ k)
    (h : ShAt w5 base ok2 p bk bq ev2 S2) (f2 : Frm wr w5 (Mut p bk bq ev1)) (g2 : ∀ b, ok2 b → ok1 b ∨ wr.heap.size ≤ b) (i2 : ∀ b, ok1 b → ok2 b) (j2 : ∀ k, ev2.ownBlock = some k → ev1.ownBlock = some k ∨ wr.heap.size ≤ k) : Turned w w5 base ok p bk bq ev S2 := by
  refine ⟨ok2, ev2, h, f1.trans f2 ?_, ?_, fun b hb => i2 b (i1 b hb), ?_⟩
  · rintro i hi (rfl | rfl | rfl | hk)
    · exact .inl rfl
    · exact .inr (.inl rfl)
    · exact .inr (.inr (.inl rfl))
    · rcases j1 i hk with h | h
      · exact .inr (.inr (.inr h))
      · omega
  · intro x hx
    rcases g2 x hx with h | h
    · exact g1 x h
    · exact .inr (Nat.le_trans f1.size h)
  · intro x hx
    rcases j2 x hx with h | h
    · exact j1 x h
    · exact .inr (Nat.le_trans f1.size h)

set_option maxHeartbeats 4000000 in
set_option maxRecDepth 100000 in
theorem put_any {base : Nat} {ok okL : Nat → Prop} {p bk bq : Nat} {ev : Value} {S : ShS} (A : Option Addr) (c : Nat) (l : List Wr) (ts : Int) (w : World) (h : ShAt w base ok p bk bq ev S) (hz : RdSl 3 encWr w okL A l) (hno : ∀ b, okL b → ¬ Mut p bk bq ev b) (hbig : l.length ≤ 1024) (hp : PutOk S.K l ts) :
    Calls Try.prog 40 #[.pointer (some ⟨p, 0, none⟩), .slice A l.length c, .int .i64 ts] w fun e w' => e = .returned (.tuple #[]) ∧ Turned w w' base ok p bk bq ev { S with K := putS S.K l ts } := by
  have H := Lib.hid h
  have HZ := Lib.hid hz
  have HN := Lib.hid hno
  have HP := Lib.hid hp
  clear h hz hno hp
  go_enter Try.func40, Try.ntmps40
  go_wp2
  go_loopg [7, 10] l.length (fun gg _ s10 wr => ∃ kk : Nat, kk ≤ l.length ∧ l.length - kk ≤ gg ∧ s10 = .int .i64 kk ∧ Aside (∃ K, Turned w wr base ok p bk bq ev { S with K := K } ∧ PutOk K (l.drop kk) ts ∧ putS K (l.drop kk) ts = putS S.K l ts))
  case atStart => exact ⟨0, Nat.zero_le _, by omega, rfl, (show Aside _ from ⟨S.K, Turned.refl H.out (Below.refl _ _), HP.out, rfl⟩)⟩
  case round =>
    obtain ⟨kk, hkk, hg, rfl, F⟩ := hrel
    by_cases hlt : kk < l.length
    · have hltz : (kk : Int) < (l.length : Int) := by omega
      obtain ⟨x, hx⟩ : ∃ x, l[kk]? = some x := ⟨_, List.getElem?_eq_getElem hlt⟩
      have hdrop : l.drop kk = x :: l.drop (kk + 1) := by
        rw [List.drop_eq_getElem_cons hlt]
        rw [List.getElem?_eq_getElem hlt] at hx
        cases hx
        rfl
      obtain ⟨K, ⟨ok1, ev1, s1, f1, g1, i1, j1⟩, hpk, hput⟩ := F.out
      rw [hdrop] at hpk hput
      obtain ⟨⟨q1, q2, q3, q4, q5, q6⟩, hpk'⟩ := hpk
      have hzr : RdSl 3 encWr wr okL A l := HZ.out.move (fun b hb hl => f1.block b hl (HN.out b hb)) f1.size (fun _ h _ => h)
      obtain ⟨b, off, e, _, hb, hc⟩ := hzr (by intro h; simp [h] at hlt)
      subst e
      have l0 := hc kk x hx 0 _ rfl
      have l1 := hc kk x hx 1 _ rfl
      have l2 := hc kk x hx 2 _ rfl
      rw [Nat.add_zero] at l0
      obtain ⟨v, lc, ⟨Ac, cc, ev', _, hnn, s7⟩, hat, hlook⟩ := look_key s1 x.key q5 false
      subst ev'
      have ech : chain K x.key = lc := by unfold chain; rw [hat]
      rw [ech] at q1 q3 q4
      simp only [Bool.false_eq_true, if_false] at hlook
      have HBn := (Below.refl wr.heap.size wr).alloc (Nat.le_refl _) (.cells #[.string x.key, .string x.sh, .bool x.dead] 56 (0, 0))
      have el := hlook ((wr.alloc (.cells #[.string x.key, .string x.sh, .bool x.dead] 56 (0, 0))).drew) ((MapKept.heap_alloc wr _).2 bk s1.keys.lt)
      have hA := fun (W : World) (hW : Below wr.heap.size wr W) => add_ver ok1 Ac cc lc ⟨ts, x.sh, x.dead⟩ W hnn (s7.below hW) q1 q2 q3 q4
      have hPut := fun (W : World) (hW : Below wr.heap.size wr W) (v : Value) (hv : RdV 3 encVer W (fun b => ok1 b ∨ (wr.heap.size ≤ b ∧ b < W.heap.size)) v (lc ++ [⟨ts, x.sh, x.dead⟩])) => (s1.grow hW).put_key q5 q6 hv
      have x1 : (wr.alloc (.cells #[.string x.key, .string x.sh, .bool x.dead] 56 (0, 0))).heap[wr.heap.size]? = some (.cells #[.string x.key, .string x.sh, .bool x.dead] 56 (0, 0)) := alloc_blk rfl
      have x2 : (wr.alloc (.cells #[.string x.key, .string x.sh, .bool x.dead] 56 (0, 0))).heap[p]? = _ := alloc_old s1.blk
      have n0 := cell_blk (i := 0) x1 rfl
      have n1 := cell_blk (i := 1) x1 rfl
      have n2 := cell_blk (i := 2) x1 rfl
      have n3 := cell_blk (i := 0) x2 rfl
      have hne1 : ¬ wr.heap.size = bk := by have := s1.keys.lt; omega
      have hne2 : ¬ p = bk := s1.p_bk
      have D := Lib.hid (And.intro f1 (And.intro g1 (And.intro i1 j1)))
      have HQ := Lib.hid (And.intro hpk' hput)
      clear hc hx hzr F s1 f1 g1 i1 j1 hlook hat hpk' hput q1 q2 q3 q4 q5 q6 s7 hdrop
      go_wp2
      generalize wr.alloc (.cells #[.string x.key, .string x.sh, .bool x.dead] 56 (0, 0)) = W0 at HBn el x1 x2 n0 n1 n2 n3 ⊢
      have HB0 := Lib.hid HBn
      clear HBn
      go_region_held3 (fun W => W.cell? ⟨p, 0, none⟩ = some (.map (some bk)) ∧ W.cell? ⟨wr.heap.size, 0, none⟩ = some (.string x.key) ∧ W.cell? ⟨wr.heap.size, 1, none⟩ = some (.string x.sh) ∧ W.cell? ⟨wr.heap.size, 2, none⟩ = some (.bool x.dead)) (go_keep)
        (first
          | (go_at_call 84; refine (hA _ ?_).mono ?_; (exact HB0.out.drew); rintro e w4 ⟨u, rfl, ho, hb4⟩; have hw4 := Lib.hid (below_thru HB0.out.drew hb4); have hr4 := own_rdv ho len_encVer; obtain ⟨Bu, du, eu, hu1, hu2, hu3⟩ := hr4; subst eu; obtain ⟨w5, hrun, hsh, hfr⟩ := hPut w4 hw4.out _ ⟨Bu, du, rfl, hu1, hu2, hu3.move (fun _ _ _ => rfl) (Nat.le_refl _) (fun b hb hbl => .inr ⟨Nat.le_trans HB0.out.size (own_block_lt ho hb).1, hbl⟩)⟩; rw [show (lc ++ [(⟨ts, x.sh, x.dead⟩ : Ver)]).length = lc.length + 1 from by simp] at hrun; have y1 := cellsLater hb4 (drew_blk x1); have y2 := cellsLater hb4 (drew_blk x2); have a0 := cell_blk (i := 0) y1 rfl; have a1 := cell_blk (i := 1) y1 rfl; have a2 := cell_blk (i := 2) y1 rfl; have a3 := cell_blk (i := 0) y2 rfl; have z1 := hfr.obj y1 hne1; have z2 := hfr.obj y2 hne2; have b0 := cell_blk (i := 0) z1 rfl; have b1 := cell_blk (i := 1) z1 rfl; have b2 := cell_blk (i := 2) z1 rfl; have b3 := cell_blk (i := 0) z2 rfl; have HF := Lib.hid hfr; have HSH := Lib.hid hsh; clear hfr hsh ho hu3))
      all_goals
        go_wp2
        go_roundg (l.length - (kk + 1))
        case measure => omega
        case rel =>
          refine ⟨kk + 1, by omega, by omega, by go_num, (show Aside _ from ?_)⟩
          obtain ⟨f1, g1, i1, j1⟩ := D.out
          refine ⟨putOne K x ts, Turned.next f1 g1 i1 j1 (ok2 := fun b => ok1 b ∨ (wr.heap.size ≤ b ∧ b < w4.heap.size)) (ev2 := ev1) ?_ ((Frm.of_below hw4.out _).trans HF.out (fun i _ e => .inr (.inl e))) (fun _ h => h.imp id And.left) (fun _ h => .inl h) (fun _ h => .inl h), HQ.out.1, HQ.out.2⟩
          have := HSH.out
          unfold putOne
          rw [ech]
          exact this
    · have hltz : ¬ (kk : Int) < (l.length : Int) := by omega
      have : kk = l.length := by omega
      subst this
      have HF : Hid (Turned w wr base ok p bk bq ev { S with K := putS S.K l ts }) := by
        obtain ⟨K, hT, _, hput⟩ := F.out
        rw [List.drop_length] at hput
        rw [← hput]
        exact hT
      go_wp2
      go_end0
      exact ⟨rfl, HF.out⟩
end Go.Proofs.Ytokfbikiicfafaa
