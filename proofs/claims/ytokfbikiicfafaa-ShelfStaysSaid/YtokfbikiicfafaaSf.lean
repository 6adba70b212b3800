/- Walks of chain.Last, chain.At, chain.Sweep: of chains that may be. -/
import Derived.Test.YtokfbikiicfafaaSe
namespace Go.Proofs.Ytokfbikiicfafaa
open Go.RowKit Go.Maps
set_option linter.unusedVariables false

set_option maxHeartbeats 2000000 in
theorem last_ver (ok : Nat → Prop) (A : Option Addr) (c : Nat) (l : List Ver) (w : World) (hz : RdSl 3 encVer w ok A l) (hl : ChainOk l) :
    Calls Try.prog 91 #[.slice A l.length c] w fun e w' => e = .returned (.tuple #[.int .i64 (lastTs l), .int .i64 0]) ∧ Below w.heap.size w w' := by
  have hC := check_ok ok A c l w hz hl
  have hl0 := hl.len
  by_cases hne : l = []
  · subst hne
    clear hz hl
    go_enter Try.func91, Try.ntmps91
    go_wp2_with (go_at_call 71; refine hC.mono ?_; rintro e w1 ⟨rfl, hb1⟩)
    go_ret2
    exact ⟨rfl, hb1⟩
  · have hpos : 0 < l.length := List.length_pos_iff.2 hne
    obtain ⟨x, hx⟩ : ∃ x, l[l.length - 1]? = some x := ⟨_, List.getElem?_eq_getElem (by omega)⟩
    rw [lastTs_of hx]
    obtain ⟨b, off, e, _, hb, hc⟩ := hz hne
    subst e
    have l0 := hc _ x hx 0 _ rfl
    rw [Nat.add_zero] at l0
    have d3 : ((l.length : Int) == 0) = false := beq_eq_false_iff_ne.2 (by omega)
    clear hc hx hz hl
    go_enter Try.func91, Try.ntmps91
    go_wp2_with (go_at_call 71; refine hC.mono ?_; rintro e w1 ⟨rfl, hb1⟩; have l1 := cell_later hb1 l0)
    go_ret2
    exact ⟨rfl, hb1⟩

def verAgg (v : Ver) : Value := .agg #[.int .i64 v.ts, .string v.sh, .bool v.dead]
def noVer : Ver := ⟨0, ⟨#[]⟩, false⟩

set_option maxHeartbeats 2000000 in
theorem at_ver (ok : Nat → Prop) (A : Option Addr) (c : Nat) (l : List Ver) (t : Int) (w : World) (hz : RdSl 3 encVer w ok A l) (hl : ChainOk l) :
    Calls Try.prog 34 #[.slice A l.length c, .int .i64 t] w fun e w' => e = .returned (.tuple #[verAgg ((atTs l t).getD noVer), .bool (atTs l t).isSome, .int .i64 0]) ∧ Below w.heap.size w w' := by
  have hC := fun (W : World) (hW : Below w.heap.size w W) => check_ok ok A c l W (hz.below hW) hl
  have hU := fun (W : World) (hW : Below w.heap.size w W) => until_any ok A c l t W (hz.below hW) hl
  have hl0 := hl.len
  have hul := upto_le l t
  by_cases h0 : upto l t = 0
  · have e1 : atTs l t = none := by unfold atTs; rw [if_pos h0]
    rw [e1]
    rw [h0] at hU
    clear hz hl e1
    go_enter Try.func34, Try.ntmps34
    go_wp2_with (first | (go_at_call 71; refine (hC _ ?_).mono ?_; (exact (Below.refl _ _).alloc (Nat.le_refl _) _); rintro e w1 ⟨rfl, hb1⟩; have hw1 := Lib.hid (((Below.refl _ _).alloc (Nat.le_refl _) _).trans (hb1.mono (by simp))); have hx1 := cellsLater hb1 (alloc_blk rfl)) | (go_at_call 72; refine (hU _ hw1.out).mono ?_; rintro e w2 ⟨rfl, hb2⟩; have hw2 := Lib.hid (hw1.out.trans (hb2.mono hw1.out.size)); have hx2 := cellsLater hb2 hx1; have hk0 := cell_blk (i := 0) hx2 rfl; have hk1 := cell_blk (i := 1) hx2 rfl; have hk2 := cell_blk (i := 2) hx2 rfl; have hf := fun i => frozen_blk (i := i) hx2))
    refine bodyPost_ret (v := .tuple #[verAgg noVer, .bool false, .int .i64 0]) (by simp [results, Try.results34, go_sem, hk0, hk1, hk2, verAgg, noVer]) rfl ⟨rfl, ?_⟩
    exact ((hw2.out.setCell (by simp) _).setCell (by simp) _).setCell (by simp) _
  · obtain ⟨x, hx⟩ : ∃ x, l[upto l t - 1]? = some x := ⟨_, List.getElem?_eq_getElem (by omega)⟩
    have e1 : atTs l t = some x := by unfold atTs; rw [if_neg h0, hx]
    rw [e1]
    obtain ⟨b, off, e, _, hb, hc⟩ := hz (by intro e; subst e; simp at hx)
    subst e
    have l0 := hc _ x hx 0 _ rfl
    have l1 := hc _ x hx 1 _ rfl
    have l2 := hc _ x hx 2 _ rfl
    rw [Nat.add_zero] at l0
    clear hz hl e1 hc hx
    generalize upto l t = n at hU hul h0 l0 l1 l2
    have hn : (n : Int) ≤ l.length := by omega
    have hn1 : (1 : Int) ≤ n := by omega
    have d1 : ((n : Int) == 0) = false := beq_eq_false_iff_ne.2 (by omega)
    have L := Lib.hid (And.intro l0 (And.intro l1 l2))
    clear l0 l1 l2
    go_enter Try.func34, Try.ntmps34
    go_wp2_with (first | (go_at_call 71; refine (hC _ ?_).mono ?_; (exact (Below.refl _ _).alloc (Nat.le_refl _) _); rintro e w1 ⟨rfl, hb1⟩; have hw1 := Lib.hid (((Below.refl _ _).alloc (Nat.le_refl _) _).trans (hb1.mono (by simp))); have hx1 := cellsLater hb1 (alloc_blk rfl)) | (go_at_call 72; refine (hU _ hw1.out).mono ?_; rintro e w2 ⟨rfl, hb2⟩; have hw2 := Lib.hid (hw1.out.trans (hb2.mono hw1.out.size)); have hx2 := cellsLater hb2 hx1; have hk0 := cell_blk (i := 0) hx2 rfl; have hk1 := cell_blk (i := 1) hx2 rfl; have hk2 := cell_blk (i := 2) hx2 rfl; have hf := fun i => frozen_blk (i := i) hx2; have m0 := cell_later hw2.out L.out.1; have m1 := cell_later hw2.out L.out.2.1; have m2 := cell_later hw2.out L.out.2.2))
    refine bodyPost_ret (v := .tuple #[verAgg x, .bool true, .int .i64 0]) (by simp [results, Try.results34, go_sem, hk0, hk1, hk2, verAgg]) rfl ⟨rfl, ?_⟩
    exact ((hw2.out.setCell (by simp) _).setCell (by simp) _).setCell (by simp) _

theorem RdSl.drop {w : World} {ok : Nat → Prop} {A : Option Addr} {l : List Ver} (h : RdSl 3 encVer w ok A l) (n : Nat) : RdSl 3 encVer w ok (A.map (fun a => ⟨a.block, a.off + n * 3, none⟩)) (l.drop n) := fun hne => by
  obtain ⟨b, off, e, ho, hl, hc⟩ := h (by intro e; subst e; simp at hne)
  subst e
  refine ⟨b, off + n * 3, rfl, ho, hl, fun j x hj i u hu => ?_⟩
  rw [List.getElem?_drop] at hj
  have := hc _ x hj i u hu
  rw [Nat.add_mul] at this
  rw [← this]
  congr 2
  omega

set_option maxHeartbeats 2000000 in
theorem sweep_ver (ok : Nat → Prop) (A : Option Addr) (c : Nat) (l : List Ver) (t : Int) (w : World) (hlc : l.length ≤ c) (hz : RdSl 3 encVer w ok A l) (hl : ChainOk l) (hne : l ≠ []) :
    Calls Try.prog 80 #[.slice A l.length c, .int .i64 t] w fun e w' => ∃ v, e = .returned (.tuple #[v, .int .i64 0]) ∧ w'.ownsRow w.heap.size 29 3 v (sweepTs l t).length ((sweepTs l t).flatMap encVer) ∧ Below w.heap.size w w' := by
  have hC := fun (W : World) (hW : Below w.heap.size w W) => check_ok ok A c l W (hz.below hW) hl
  have hU := fun (W : World) (hW : Below w.heap.size w W) => until_any ok A c l t W (hz.below hW) hl
  have hl0 := hl.len
  have hul := upto_le l t
  by_cases h0 : upto l t = 0
  · have e1 : sweepTs l t = l := by unfold sweepTs struck; rw [if_pos h0]; rfl
    rw [e1]
    rw [h0] at hU
    clear e1
    have hQ := fun (W : World) (hW : Below w.heap.size w W) => clone_ver ok A c l W (hz.below hW) (by omega)
    clear hz hl
    go_enter Try.func80, Try.ntmps80
    go_wp2_with (first | (go_at_call 71; refine (hC _ (Below.refl _ _)).mono ?_; rintro e w1 ⟨rfl, hb1⟩; have hw1 := Lib.hid hb1) | (go_at_call 72; refine (hU _ hw1.out).mono ?_; rintro e w2 ⟨rfl, hb2⟩; have hw2 := Lib.hid (hw1.out.trans (hb2.mono hw1.out.size))) | (go_at_call 114; refine (hQ _ hw2.out).mono ?_; rintro e w3 ⟨u, rfl, hown, hb3⟩))
    go_ret2
    exact ⟨_, rfl, own_lower hown hw2.out.size, hw2.out.trans (hb3.mono hw2.out.size)⟩
  · obtain ⟨x, hx⟩ : ∃ x, l[upto l t - 1]? = some x := ⟨_, List.getElem?_eq_getElem (by omega)⟩
    obtain ⟨b, off, e, _, hb, hc⟩ := hz (by intro e; subst e; simp at hx)
    subst e
    have l2 := hc _ x hx 2 _ rfl
    have hQ := fun (n : Nat) (W : World) (hW : Below w.heap.size w W) => clone_ver ok (some ⟨b, off + n * 3, none⟩) (c - n) (l.drop n) W ((hz.drop n).below hW) (by simp; omega)
    have e1 : sweepTs l t = l.drop (if x.dead then upto l t else upto l t - 1) := by unfold sweepTs struck; rw [if_neg h0, hx]
    rw [e1]
    have hz0 := Lib.hid hz
    clear hz hl e1 hc hx
    generalize upto l t = n at hU hul h0 l2 ⊢
    have hn : (n : Int) ≤ l.length := by omega
    have hn1 : (1 : Int) ≤ n := by omega
    have d1 : decide (0 < (n : Int)) = true := decide_eq_true (by omega)
    have L := Lib.hid l2
    cases hd : x.dead with
    | true =>
      rw [hd] at L
      clear l2 hd
      have hQ1 := fun (W : World) (hW : Below w.heap.size w W) => clone_ver ok (if c = n then some ⟨b, off, none⟩ else some ⟨b, off + n * 3, none⟩) (c - n) (l.drop n) W (by
        split
        · rename_i hcn
          have : l.drop n = [] := List.drop_eq_nil_of_le (by omega)
          rw [this]
          exact RdSl.nil _ _ _ _ _
        · exact (hz0.out.drop n).below hW) (by simp; omega)
      rw [List.length_drop] at hQ1
      clear hQ
      go_enter Try.func80, Try.ntmps80
      go_wp2_with (first | (go_at_call 71; refine (hC _ (Below.refl _ _)).mono ?_; rintro e w1 ⟨rfl, hb1⟩; have hw1 := Lib.hid hb1) | (go_at_call 72; refine (hU _ hw1.out).mono ?_; rintro e w2 ⟨rfl, hb2⟩; have hw2 := Lib.hid (hw1.out.trans (hb2.mono hw1.out.size)); have m2 := cell_later hw2.out L.out) | (go_at_call 114; refine (hQ1 _ hw2.out).mono ?_; rintro e w3 ⟨u, rfl, hown, hb3⟩))
      all_goals
        go_ret2
        exact ⟨_, rfl, own_lower hown hw2.out.size, hw2.out.trans (hb3.mono hw2.out.size)⟩
    | false =>
      rw [hd] at L
      clear l2 hd
      have hQ1 := hQ (n - 1)
      rw [List.length_drop] at hQ1
      clear hQ
      go_enter Try.func80, Try.ntmps80
      go_wp2_with (first | (go_at_call 71; refine (hC _ (Below.refl _ _)).mono ?_; rintro e w1 ⟨rfl, hb1⟩; have hw1 := Lib.hid hb1) | (go_at_call 72; refine (hU _ hw1.out).mono ?_; rintro e w2 ⟨rfl, hb2⟩; have hw2 := Lib.hid (hw1.out.trans (hb2.mono hw1.out.size)); have m2 := cell_later hw2.out L.out) | (go_at_call 114; refine (hQ1 _ hw2.out).mono ?_; rintro e w3 ⟨u, rfl, hown, hb3⟩))
      all_goals
        go_ret2
        exact ⟨_, rfl, own_lower hown hw2.out.size, hw2.out.trans (hb3.mono hw2.out.size)⟩
end Go.Proofs.Ytokfbikiicfafaa
