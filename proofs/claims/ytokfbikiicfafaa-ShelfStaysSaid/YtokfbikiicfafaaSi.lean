/- record.listed, record.bare, record.Check: whether a record may be. -/
import Derived.Test.YtokfbikiicfafaaSr
import Derived.Deep.RegionWith
import Derived.Deep.RegionLaw
import Derived.Deep.Light
namespace Go.Proofs.Ytokfbikiicfafaa
open Go.RowKit Go.Maps
set_option linter.unusedVariables false

set_option maxHeartbeats 2000000 in
set_option maxRecDepth 100000 in
theorem listed_any (ok : Nat → Prop) (A A2 : Option Addr) (c c2 : Nat) (r : Rec) (w : World) (hz : RdSl 1 encS w ok A r.keys) (hz2 : RdSl 3 encWr w ok A2 r.writes) (hb1 : r.keys.length * 16 ≤ 140737488351232) (hb2 : r.writes.length * 40 ≤ 140737488351232) :
    Calls Try.prog 74 #[.agg #[.int .i64 r.kind, .int .i64 r.txn, .int .i64 r.ts, .int .i64 r.coord, .string r.key, .string r.text, .bool r.dead, .slice A r.keys.length c, .slice A2 r.writes.length c2]] w
      fun e w' => e = .returned (.bool (listedB r.keys r.writes)) ∧ Below w.heap.size w w' := by
  have hC := fun (W : World) (hW : Below w.heap.size w W) => check_prep ok A A2 c c2 r.keys r.writes W (hz.below hW) (hz2.below hW) hb1 hb2
  have he := Lib.hid (okOr_eq (listedB r.keys r.writes) 70 (by decide))
  clear hz hz2
  go_enter Try.func74, Try.ntmps74
  go_wp2_with (go_at_call 93; refine (hC _ ?_).mono ?_; (exact ((Below.refl _ _).alloc (Nat.le_refl _) _).alloc (by simp) _); rintro e w1 ⟨rfl, hb1'⟩)
  go_ret
  exact ⟨by show Ending.returned (.bool (okOr (listedB r.keys r.writes) 70 == 0)) = _; rw [he.out], (((Below.refl _ _).alloc (Nat.le_refl _) _).alloc (by simp) _).trans (hb1'.mono (by simp; omega))⟩

set_option maxHeartbeats 2000000 in
set_option maxRecDepth 100000 in
theorem bare_any (r : Rec) (A7 A8 : Option Addr) (n7 n8 c7 c8 : Nat) (w : World) :
    Calls Try.prog 73 #[.agg #[.int .i64 r.kind, .int .i64 r.txn, .int .i64 r.ts, .int .i64 r.coord, .string r.key, .string r.text, .bool r.dead, .slice A7 n7 c7, .slice A8 n8 c8]] w
      fun e w' => e = .returned (.agg #[.int .i64 r.kind, .int .i64 r.txn, .int .i64 r.ts, .int .i64 0, .string ⟨#[]⟩, .string ⟨#[]⟩, .bool false]) ∧ Below w.heap.size w w' := by
  go_enter Try.func73, Try.ntmps73
  go_wp2
  refine bodyPost_ret (v := .agg #[.int .i64 r.kind, .int .i64 r.txn, .int .i64 r.ts, .int .i64 0, .string ⟨#[]⟩, .string ⟨#[]⟩, .bool false]) (by simp [results, Try.results73, go_sem]) rfl ⟨rfl, ?_⟩
  exact ((Below.refl _ _).alloc (Nat.le_refl _) _).alloc (by simp) _


set_option maxHeartbeats 4000000 in
set_option maxRecDepth 100000 in
theorem rcheck_bad (r : Rec) (A A2 : Option Addr) (n n2 c c2 : Nat) (w : World) (hb : numsB r = false) :
    Calls Try.prog 35 #[.agg #[.int .i64 r.kind, .int .i64 r.txn, .int .i64 r.ts, .int .i64 r.coord, .string r.key, .string r.text, .bool r.dead, .slice A n c, .slice A2 n2 c2]] w
      fun e w' => e = .returned (.int .i64 80) ∧ Below w.heap.size w w' := by
  have key : ∀ b1 b2 b3 b4 b5 b6 : Bool, (!(b1 || b2 || b3 || b4 || b5 || b6)) = false → b1 = true ∨ (b1 = false ∧ b2 = true) ∨ (b1 = false ∧ b2 = false ∧ b3 = true) ∨ (b1 = false ∧ b2 = false ∧ b3 = false ∧ b4 = true) ∨
      (b1 = false ∧ b2 = false ∧ b3 = false ∧ b4 = false ∧ b5 = true) ∨ (b1 = false ∧ b2 = false ∧ b3 = false ∧ b4 = false ∧ b5 = false ∧ b6 = true) := by decide
  have hk := key _ _ _ _ _ _ hb
  clear key hb
  rcases hk with h1 | ⟨h1, h2⟩ | ⟨h1, h2, h3⟩ | ⟨h1, h2, h3, h4⟩ | ⟨h1, h2, h3, h4, h5⟩ | ⟨h1, h2, h3, h4, h5, h6⟩
  all_goals
    go_enter Try.func35, Try.ntmps35
    go_wp2
    go_ret
    exact ⟨rfl, (Below.refl _ _).alloc (Nat.le_refl _) _⟩


set_option maxHeartbeats 40000000 in
set_option maxRecDepth 100000 in
theorem rcheck_good (ok : Nat → Prop) (A A2 : Option Addr) (c c2 : Nat) (r : Rec) (w : World) (hz : RdSl 1 encS w ok A r.keys) (hz2 : RdSl 3 encWr w ok A2 r.writes) (hb1 : r.keys.length * 16 ≤ 140737488351232) (hb2 : r.writes.length * 40 ≤ 140737488351232) (hn : numsB r = true) :
    Calls Try.prog 35 #[.agg #[.int .i64 r.kind, .int .i64 r.txn, .int .i64 r.ts, .int .i64 r.coord, .string r.key, .string r.text, .bool r.dead, .slice A r.keys.length c, .slice A2 r.writes.length c2]] w
      fun e w' => e = .returned (.int .i64 (okOr (recBody r) 80)) ∧ Below w.heap.size w w' := by
  have hL := fun (W : World) (hW : Below w.heap.size w W) => listed_any ok A A2 c c2 r W (hz.below hW) (hz2.below hW) hb1 hb2
  clear hz hz2
  have key : ∀ b1 b2 b3 b4 b5 b6 : Bool, (!(b1 || b2 || b3 || b4 || b5 || b6)) = true → b1 = false ∧ b2 = false ∧ b3 = false ∧ b4 = false ∧ b5 = false ∧ b6 = false := by decide
  obtain ⟨h1, h2, h3, h4, h5, h6⟩ := key _ _ _ _ _ _ hn
  clear key hn
  go_enter Try.func35, Try.ntmps35
  go_wp2
  have hx0 := alloc_blk (w := w) (o := .cells #[.int .i64 r.kind, .int .i64 r.txn, .int .i64 r.ts, .int .i64 r.coord, .string r.key, .string r.text, .bool r.dead, .slice A r.keys.length c, .slice A2 r.writes.length c2] 35) rfl
  have hw0 := Lib.hid ((Below.refl w.heap.size w).alloc (Nat.le_refl _) (.cells #[.int .i64 r.kind, .int .i64 r.txn, .int .i64 r.ts, .int .i64 r.coord, .string r.key, .string r.text, .bool r.dead, .slice A r.keys.length c, .slice A2 r.writes.length c2] 35))
  generalize hW0 : w.alloc (.cells #[.int .i64 r.kind, .int .i64 r.txn, .int .i64 r.ts, .int .i64 r.coord, .string r.key, .string r.text, .bool r.dead, .slice A r.keys.length c, .slice A2 r.writes.length c2] 35) = W0 at hx0 hw0 ⊢
  clear hW0
  have k0 := cell_blk (i := 0) hx0 rfl
  have k1 := cell_blk (i := 1) hx0 rfl
  have k2 := cell_blk (i := 2) hx0 rfl
  have k3 := cell_blk (i := 3) hx0 rfl
  have k4 := cell_blk (i := 4) hx0 rfl
  have k5 := cell_blk (i := 5) hx0 rfl
  have k6 := cell_blk (i := 6) hx0 rfl
  have k7 := cell_blk (i := 7) hx0 rfl
  have k8 := cell_blk (i := 8) hx0 rfl
  have hs0 : w.heap.size < W0.heap.size := (Array.getElem?_eq_some_iff.1 hx0).1
  have hsum : Hid ((IntKind.i64.wrap ((r.keys.length : Int) + r.writes.length) == 0) = noneB r) := by
    show _ = _
    unfold noneB
    rw [show IntKind.i64.wrap ((r.keys.length : Int) + r.writes.length) = (r.keys.length : Int) + r.writes.length from IntWalk.i64_in _ (by omega)]
    by_cases h0 : (r.keys.length : Int) + r.writes.length = 0
    · rw [decide_eq_true h0, h0]; rfl
    · rw [decide_eq_false h0]; exact beq_eq_false_iff_ne.2 h0
  have hq0 : W0.heap.size ≠ w.heap.size := by omega
  have hq1 : w.heap.size ≠ W0.heap.size := by omega
  go_cut [3, 4] (fun v3 v4 wc => ∃ B : Nat, v3 = .pointer (some ⟨B, 0, none⟩) ∧ v4 = .bool (noneB r) ∧ (w.heap.size ≤ B ∧ B ≠ w.heap.size) ∧ Aside (wc.heap[B]? = some (.cells #[.int .i64 r.kind, .int .i64 r.txn, .int .i64 r.ts, .int .i64 0, .string ⟨#[]⟩, .string ⟨#[]⟩, .bool false] 129 (0, 0))) ∧ Aside (wc.heap[w.heap.size]? = some (.cells #[.int .i64 r.kind, .int .i64 r.txn, .int .i64 r.ts, .int .i64 r.coord, .string r.key, .string r.text, .bool r.dead, .slice A r.keys.length c, .slice A2 r.writes.length c2] 35 (0, 0))) ∧ Aside (Below w.heap.size w wc))
  case first =>
    go_region_held3 (fun w' => w'.cell? ⟨w.heap.size, 0, none⟩ = some (.int .i64 r.kind) ∧ w'.cell? ⟨w.heap.size, 1, none⟩ = some (.int .i64 r.txn) ∧ w'.cell? ⟨w.heap.size, 2, none⟩ = some (.int .i64 r.ts) ∧ w'.cell? ⟨w.heap.size, 3, none⟩ = some (.int .i64 r.coord) ∧ w'.cell? ⟨w.heap.size, 4, none⟩ = some (.string r.key) ∧ w'.cell? ⟨w.heap.size, 5, none⟩ = some (.string r.text) ∧ w'.cell? ⟨w.heap.size, 6, none⟩ = some (.bool r.dead) ∧ w'.cell? ⟨w.heap.size, 7, none⟩ = some (.slice A r.keys.length c) ∧ w'.cell? ⟨w.heap.size, 8, none⟩ = some (.slice A2 r.writes.length c2)) (go_keep)
      (first | (go_at_call 73; refine (bare_any r A A2 _ _ c c2 _).mono ?_; rintro e w1 ⟨rfl, hb1⟩; have hx2 := cellsLater hb1 (by first | exact hx0 | exact alloc_old hx0); have hs2 := (Array.getElem?_eq_some_iff.1 hx2).1; have hq2 : w1.heap.size ≠ w.heap.size := (by omega); have hq3 : w.heap.size ≠ w1.heap.size := (by omega); have k0 := cell_blk (i := 0) hx2 rfl; have k1 := cell_blk (i := 1) hx2 rfl; have k2 := cell_blk (i := 2) hx2 rfl; have k3 := cell_blk (i := 3) hx2 rfl; have k4 := cell_blk (i := 4) hx2 rfl; have k5 := cell_blk (i := 5) hx2 rfl; have k6 := cell_blk (i := 6) hx2 rfl; have k7 := cell_blk (i := 7) hx2 rfl; have k8 := cell_blk (i := 8) hx2 rfl; (try (have hx3 := cellsLater (g := W0.heap.size) hb1 (alloc_blk (w := W0.drew) (o := .cells #[.int .i64 0, .int .i64 0, .int .i64 0, .int .i64 0, .string ⟨#[]⟩, .string ⟨#[]⟩, .bool false] 129) rfl); have hs3 := (Array.getElem?_eq_some_iff.1 hx3).1; have f0 := frozen_blk (i := 0) hx3; have f1 := frozen_blk (i := 1) hx3; have f2 := frozen_blk (i := 2) hx3; have f3 := frozen_blk (i := 3) hx3; have f4 := frozen_blk (i := 4) hx3; have f5 := frozen_blk (i := 5) hx3; have f6 := frozen_blk (i := 6) hx3; have z0 := cell_blk (i := 0) hx3 rfl; have z1 := cell_blk (i := 1) hx3 rfl; have z2 := cell_blk (i := 2) hx3 rfl; have z3 := cell_blk (i := 3) hx3 rfl; have z4 := cell_blk (i := 4) hx3 rfl; have z5 := cell_blk (i := 5) hx3 rfl; have z6 := cell_blk (i := 6) hx3 rfl))))
    all_goals
      go_wp2
      go_meet
    · refine ⟨_, rfl, ?_, ?_, ?_, ?_, ?_⟩
      · rw [hsum.out]
      · exact ⟨by omega, hq2⟩
      · exact alloc_blk rfl
      · exact alloc_old hx2
      · exact (below_thru hw0.out.drew hb1).alloc (below_thru hw0.out.drew hb1).size _
    · refine ⟨_, rfl, ?_, ?_, ?_, ?_, ?_⟩
      · rw [hsum.out]
      · exact ⟨by omega, hq0⟩
      · exact set_blk (set_blk (set_blk (set_blk (set_blk (set_blk (set_blk hx3))))))
      · exact set_far (set_far (set_far (set_far (set_far (set_far (set_far hx2 hq1) hq1) hq1) hq1) hq1) hq1) hq1
      · exact (((((((below_thru (hw0.out.drew.alloc hw0.out.size _) hb1).setCell hw0.out.size _).setCell hw0.out.size _).setCell hw0.out.size _).setCell hw0.out.size _).setCell hw0.out.size _).setCell hw0.out.size _).setCell hw0.out.size _
  case rest =>
    obtain ⟨B, rfl, rfl, hBw, hB, hx, hbel⟩ := hcut
    have hBge : w.heap.size ≤ B := hBw.1
    replace hBw := hBw.2
    have b0 := cell_blk (i := 0) hB.out rfl
    have b1 := cell_blk (i := 1) hB.out rfl
    have b2 := cell_blk (i := 2) hB.out rfl
    have b3 := cell_blk (i := 3) hB.out rfl
    have b4 := cell_blk (i := 4) hB.out rfl
    have b5 := cell_blk (i := 5) hB.out rfl
    have b6 := cell_blk (i := 6) hB.out rfl
    have x0 := cell_blk (i := 0) hx.out rfl
    have x1 := cell_blk (i := 1) hx.out rfl
    have x2 := cell_blk (i := 2) hx.out rfl
    have x3 := cell_blk (i := 3) hx.out rfl
    have x4 := cell_blk (i := 4) hx.out rfl
    have x5 := cell_blk (i := 5) hx.out rfl
    have x6 := cell_blk (i := 6) hx.out rfl
    have x7 := cell_blk (i := 7) hx.out rfl
    have x8 := cell_blk (i := 8) hx.out rfl
    have f0 := frozen_blk (i := 0) hB.out
    have f1 := frozen_blk (i := 1) hB.out
    have f2 := frozen_blk (i := 2) hB.out
    have f3 := frozen_blk (i := 3) hB.out
    have f4 := frozen_blk (i := 4) hB.out
    have f5 := frozen_blk (i := 5) hB.out
    have f6 := frozen_blk (i := 6) hB.out
    clear k0 k1 k2 k3 k4 k5 k6 k7 k8 hx0 hs0 hq0 hq1 hsum
    have kinds : r.kind = 1 ∨ r.kind = 2 ∨ r.kind = 3 ∨ r.kind = 4 ∨ r.kind = 5 ∨ r.kind = 6 ∨ r.kind = 7 ∨ (r.kind ≠ 1 ∧ r.kind ≠ 2 ∧ r.kind ≠ 3 ∧ r.kind ≠ 4 ∧ r.kind ≠ 5 ∧ r.kind ≠ 6 ∧ r.kind ≠ 7) := by omega
    rcases kinds with hk | hk | hk | hk | hk | hk | hk | hk
    · have HR := Lib.hid (recBody_1 hk)
      rw [hk] at b0 x0 hx hB hL
      clear hk
      have hq4 : B ≠ w.heap.size := hBw
      have hq5 : w.heap.size ≠ B := fun e => hBw e.symm
      go_wp2
      cases hls : listedB r.keys r.writes with
      | false =>
        rw [hls] at hL HR
        first
          | go_region_with (first | (go_at_call 74; refine (hL _ ?_).mono ?_; (repeat (with_reducible first | exact hbel.out | refine Below.setCell ?_ hBge _ | refine Below.drew ?_ | refine below_drewN ?_ _)); rintro e w1 ⟨rfl, hb1'⟩; go_loud ((first | (have hxx := cellsLater hb1' hx.out; have hBB := cellsLater hb1' hB.out) | (have hxx := cellsLater hb1' (set_far hx.out hq5); have hBB := cellsLater hb1' (set_blk hB.out))); have hw1 : Hid (Below w.heap.size w w1) := (by first | exact below_thru hbel.out.drew hb1' | exact below_thru (hbel.out.drew.setCell hBge _) hb1'); have y0 := cell_blk (i := 0) hxx rfl; have y1 := cell_blk (i := 1) hxx rfl; have y2 := cell_blk (i := 2) hxx rfl; have y3 := cell_blk (i := 3) hxx rfl; have y4 := cell_blk (i := 4) hxx rfl; have y5 := cell_blk (i := 5) hxx rfl; have y6 := cell_blk (i := 6) hxx rfl; have y7 := cell_blk (i := 7) hxx rfl; have y8 := cell_blk (i := 8) hxx rfl; have c0 := cell_blk (i := 0) hBB rfl; have g0 := frozen_blk (i := 0) hBB; have c1 := cell_blk (i := 1) hBB rfl; have g1 := frozen_blk (i := 1) hBB; have c2 := cell_blk (i := 2) hBB rfl; have g2 := frozen_blk (i := 2) hBB; have c3 := cell_blk (i := 3) hBB rfl; have g3 := frozen_blk (i := 3) hBB; have c4 := cell_blk (i := 4) hBB rfl; have g4 := frozen_blk (i := 4) hBB; have c5 := cell_blk (i := 5) hBB rfl; have g5 := frozen_blk (i := 5) hBB; have c6 := cell_blk (i := 6) hBB rfl; have g6 := frozen_blk (i := 6) hBB)))
          | fail "no"
        all_goals
          go_wp2
        all_goals
          go_ret
          refine ⟨?_, by repeat (with_reducible first | exact hw1.out | refine Below.setCell ?_ hBge _ | refine Below.drew ?_ | refine below_drewN ?_ _)⟩
          clear hbel hB hx
          first
            | (have e : recBody r = true := (by rw [HR.out]; go_light; (try unfold flatB); (try rw [decide_eq_true (p := 0 < r.txn) (by first | assumption | omega)]); (try rw [decide_eq_false (p := 0 < r.txn) (by first | assumption | omega)]); (try rw [decide_eq_true (p := 0 < r.ts) (by first | assumption | omega)]); (try rw [decide_eq_false (p := 0 < r.ts) (by first | assumption | omega)]); (try rw [decide_eq_true (p := 0 = r.coord) (by first | assumption | omega)]); (try rw [decide_eq_false (p := 0 = r.coord) (by first | assumption | omega)]); (try rw [decide_eq_true (p := 0 = r.ts) (by first | assumption | omega)]); (try rw [decide_eq_false (p := 0 = r.ts) (by first | assumption | omega)]); (try rw [decide_eq_true (p := 0 = r.txn) (by first | assumption | omega)]); (try rw [decide_eq_false (p := 0 = r.txn) (by first | assumption | omega)]); (try rw [decide_eq_true (p := (r.text.size : Int) ≤ 2052) (by first | assumption | omega)]); (try rw [decide_eq_false (p := (r.text.size : Int) ≤ 2052) (by first | assumption | omega)]); (try rw [decide_eq_true (p := r.key.toList = []) (by assumption)]); (try rw [decide_eq_false (p := r.key.toList = []) (by assumption)]); (try rw [decide_eq_true (p := r.text.toList = []) (by assumption)]); (try rw [decide_eq_false (p := r.text.toList = []) (by assumption)]); (try rw [(by assumption : r.dead = true)]); (try rw [(by assumption : r.dead = false)]); (try rw [Bool.eq_false_iff.2 (by assumption : ¬r.dead = true)]); (try rw [(by assumption : noneB r = true)]); (try rw [(by assumption : noneB r = false)]); (try rw [Bool.eq_false_iff.2 (by assumption : ¬noneB r = true)]); (try rw [(by assumption : keyB r.key = true)]); (try rw [(by assumption : keyB r.key = false)]); (try rw [Bool.eq_false_iff.2 (by assumption : ¬keyB r.key = true)]); (try rw [(by assumption : listedB r.keys r.writes = true)]); (try rw [(by assumption : listedB r.keys r.writes = false)]); (try rw [Bool.eq_false_iff.2 (by assumption : ¬listedB r.keys r.writes = true)]); simp; done); rw [e]; rfl)
            | (have e : recBody r = false := (by rw [HR.out]; go_light; (try unfold flatB); (try rw [decide_eq_true (p := 0 < r.txn) (by first | assumption | omega)]); (try rw [decide_eq_false (p := 0 < r.txn) (by first | assumption | omega)]); (try rw [decide_eq_true (p := 0 < r.ts) (by first | assumption | omega)]); (try rw [decide_eq_false (p := 0 < r.ts) (by first | assumption | omega)]); (try rw [decide_eq_true (p := 0 = r.coord) (by first | assumption | omega)]); (try rw [decide_eq_false (p := 0 = r.coord) (by first | assumption | omega)]); (try rw [decide_eq_true (p := 0 = r.ts) (by first | assumption | omega)]); (try rw [decide_eq_false (p := 0 = r.ts) (by first | assumption | omega)]); (try rw [decide_eq_true (p := 0 = r.txn) (by first | assumption | omega)]); (try rw [decide_eq_false (p := 0 = r.txn) (by first | assumption | omega)]); (try rw [decide_eq_true (p := (r.text.size : Int) ≤ 2052) (by first | assumption | omega)]); (try rw [decide_eq_false (p := (r.text.size : Int) ≤ 2052) (by first | assumption | omega)]); (try rw [decide_eq_true (p := r.key.toList = []) (by assumption)]); (try rw [decide_eq_false (p := r.key.toList = []) (by assumption)]); (try rw [decide_eq_true (p := r.text.toList = []) (by assumption)]); (try rw [decide_eq_false (p := r.text.toList = []) (by assumption)]); (try rw [(by assumption : r.dead = true)]); (try rw [(by assumption : r.dead = false)]); (try rw [Bool.eq_false_iff.2 (by assumption : ¬r.dead = true)]); (try rw [(by assumption : noneB r = true)]); (try rw [(by assumption : noneB r = false)]); (try rw [Bool.eq_false_iff.2 (by assumption : ¬noneB r = true)]); (try rw [(by assumption : keyB r.key = true)]); (try rw [(by assumption : keyB r.key = false)]); (try rw [Bool.eq_false_iff.2 (by assumption : ¬keyB r.key = true)]); (try rw [(by assumption : listedB r.keys r.writes = true)]); (try rw [(by assumption : listedB r.keys r.writes = false)]); (try rw [Bool.eq_false_iff.2 (by assumption : ¬listedB r.keys r.writes = true)]); simp; done); rw [e]; rfl)
      | true =>
        rw [hls] at hL HR
        go_region_held3 (fun w' => w'.cell? ⟨w.heap.size, 0, none⟩ = some (.int .i64 1) ∧ w'.cell? ⟨w.heap.size, 1, none⟩ = some (.int .i64 r.txn) ∧ w'.cell? ⟨w.heap.size, 2, none⟩ = some (.int .i64 r.ts) ∧ w'.cell? ⟨w.heap.size, 3, none⟩ = some (.int .i64 r.coord) ∧ w'.cell? ⟨w.heap.size, 4, none⟩ = some (.string r.key) ∧ w'.cell? ⟨w.heap.size, 5, none⟩ = some (.string r.text) ∧ w'.cell? ⟨w.heap.size, 6, none⟩ = some (.bool r.dead) ∧ w'.cell? ⟨w.heap.size, 7, none⟩ = some (.slice A r.keys.length c) ∧ w'.cell? ⟨w.heap.size, 8, none⟩ = some (.slice A2 r.writes.length c2)) (go_keep)
          (first | (go_at_call 74; refine (hL _ ?_).mono ?_; (repeat (with_reducible first | exact hbel.out | refine Below.setCell ?_ hBge _ | refine Below.drew ?_ | refine below_drewN ?_ _)); rintro e w1 ⟨rfl, hb1'⟩; go_loud ((first | (have hxx := cellsLater hb1' hx.out; have hBB := cellsLater hb1' hB.out) | (have hxx := cellsLater hb1' (set_far hx.out hq5); have hBB := cellsLater hb1' (set_blk hB.out))); have hw1 : Hid (Below w.heap.size w w1) := (by first | exact below_thru hbel.out.drew hb1' | exact below_thru (hbel.out.drew.setCell hBge _) hb1'); have y0 := cell_blk (i := 0) hxx rfl; have y1 := cell_blk (i := 1) hxx rfl; have y2 := cell_blk (i := 2) hxx rfl; have y3 := cell_blk (i := 3) hxx rfl; have y4 := cell_blk (i := 4) hxx rfl; have y5 := cell_blk (i := 5) hxx rfl; have y6 := cell_blk (i := 6) hxx rfl; have y7 := cell_blk (i := 7) hxx rfl; have y8 := cell_blk (i := 8) hxx rfl; have c0 := cell_blk (i := 0) hBB rfl; have g0 := frozen_blk (i := 0) hBB; have c1 := cell_blk (i := 1) hBB rfl; have g1 := frozen_blk (i := 1) hBB; have c2 := cell_blk (i := 2) hBB rfl; have g2 := frozen_blk (i := 2) hBB; have c3 := cell_blk (i := 3) hBB rfl; have g3 := frozen_blk (i := 3) hBB; have c4 := cell_blk (i := 4) hBB rfl; have g4 := frozen_blk (i := 4) hBB; have c5 := cell_blk (i := 5) hBB rfl; have g5 := frozen_blk (i := 5) hBB; have c6 := cell_blk (i := 6) hBB rfl; have g6 := frozen_blk (i := 6) hBB)))
        all_goals
          go_wp2
        all_goals
          go_ret
          refine ⟨?_, by repeat (with_reducible first | exact hw1.out | refine Below.setCell ?_ hBge _ | refine Below.drew ?_ | refine below_drewN ?_ _)⟩
          clear hbel hB hx
          first
            | (have e : recBody r = true := (by rw [HR.out]; go_light; (try unfold flatB); (try rw [decide_eq_true (p := 0 < r.txn) (by first | assumption | omega)]); (try rw [decide_eq_false (p := 0 < r.txn) (by first | assumption | omega)]); (try rw [decide_eq_true (p := 0 < r.ts) (by first | assumption | omega)]); (try rw [decide_eq_false (p := 0 < r.ts) (by first | assumption | omega)]); (try rw [decide_eq_true (p := 0 = r.coord) (by first | assumption | omega)]); (try rw [decide_eq_false (p := 0 = r.coord) (by first | assumption | omega)]); (try rw [decide_eq_true (p := 0 = r.ts) (by first | assumption | omega)]); (try rw [decide_eq_false (p := 0 = r.ts) (by first | assumption | omega)]); (try rw [decide_eq_true (p := 0 = r.txn) (by first | assumption | omega)]); (try rw [decide_eq_false (p := 0 = r.txn) (by first | assumption | omega)]); (try rw [decide_eq_true (p := (r.text.size : Int) ≤ 2052) (by first | assumption | omega)]); (try rw [decide_eq_false (p := (r.text.size : Int) ≤ 2052) (by first | assumption | omega)]); (try rw [decide_eq_true (p := r.key.toList = []) (by assumption)]); (try rw [decide_eq_false (p := r.key.toList = []) (by assumption)]); (try rw [decide_eq_true (p := r.text.toList = []) (by assumption)]); (try rw [decide_eq_false (p := r.text.toList = []) (by assumption)]); (try rw [(by assumption : r.dead = true)]); (try rw [(by assumption : r.dead = false)]); (try rw [Bool.eq_false_iff.2 (by assumption : ¬r.dead = true)]); (try rw [(by assumption : noneB r = true)]); (try rw [(by assumption : noneB r = false)]); (try rw [Bool.eq_false_iff.2 (by assumption : ¬noneB r = true)]); (try rw [(by assumption : keyB r.key = true)]); (try rw [(by assumption : keyB r.key = false)]); (try rw [Bool.eq_false_iff.2 (by assumption : ¬keyB r.key = true)]); (try rw [(by assumption : listedB r.keys r.writes = true)]); (try rw [(by assumption : listedB r.keys r.writes = false)]); (try rw [Bool.eq_false_iff.2 (by assumption : ¬listedB r.keys r.writes = true)]); simp; done); rw [e]; rfl)
            | (have e : recBody r = false := (by rw [HR.out]; go_light; (try unfold flatB); (try rw [decide_eq_true (p := 0 < r.txn) (by first | assumption | omega)]); (try rw [decide_eq_false (p := 0 < r.txn) (by first | assumption | omega)]); (try rw [decide_eq_true (p := 0 < r.ts) (by first | assumption | omega)]); (try rw [decide_eq_false (p := 0 < r.ts) (by first | assumption | omega)]); (try rw [decide_eq_true (p := 0 = r.coord) (by first | assumption | omega)]); (try rw [decide_eq_false (p := 0 = r.coord) (by first | assumption | omega)]); (try rw [decide_eq_true (p := 0 = r.ts) (by first | assumption | omega)]); (try rw [decide_eq_false (p := 0 = r.ts) (by first | assumption | omega)]); (try rw [decide_eq_true (p := 0 = r.txn) (by first | assumption | omega)]); (try rw [decide_eq_false (p := 0 = r.txn) (by first | assumption | omega)]); (try rw [decide_eq_true (p := (r.text.size : Int) ≤ 2052) (by first | assumption | omega)]); (try rw [decide_eq_false (p := (r.text.size : Int) ≤ 2052) (by first | assumption | omega)]); (try rw [decide_eq_true (p := r.key.toList = []) (by assumption)]); (try rw [decide_eq_false (p := r.key.toList = []) (by assumption)]); (try rw [decide_eq_true (p := r.text.toList = []) (by assumption)]); (try rw [decide_eq_false (p := r.text.toList = []) (by assumption)]); (try rw [(by assumption : r.dead = true)]); (try rw [(by assumption : r.dead = false)]); (try rw [Bool.eq_false_iff.2 (by assumption : ¬r.dead = true)]); (try rw [(by assumption : noneB r = true)]); (try rw [(by assumption : noneB r = false)]); (try rw [Bool.eq_false_iff.2 (by assumption : ¬noneB r = true)]); (try rw [(by assumption : keyB r.key = true)]); (try rw [(by assumption : keyB r.key = false)]); (try rw [Bool.eq_false_iff.2 (by assumption : ¬keyB r.key = true)]); (try rw [(by assumption : listedB r.keys r.writes = true)]); (try rw [(by assumption : listedB r.keys r.writes = false)]); (try rw [Bool.eq_false_iff.2 (by assumption : ¬listedB r.keys r.writes = true)]); simp; done); rw [e]; rfl)
    · have HR := Lib.hid (recBody_2 hk)
      rw [hk] at b0 x0
      clear hk
      go_wp2
      all_goals
        go_ret
        refine ⟨?_, by repeat (with_reducible first | exact hbel.out | refine Below.setCell ?_ hBge _ | refine Below.drew ?_ | refine below_drewN ?_ _)⟩
        clear hbel hB hx
        first
          | (have e : recBody r = true := (by rw [HR.out]; go_light; (try unfold flatB); (try rw [decide_eq_true (p := 0 < r.txn) (by first | assumption | omega)]); (try rw [decide_eq_false (p := 0 < r.txn) (by first | assumption | omega)]); (try rw [decide_eq_true (p := 0 < r.ts) (by first | assumption | omega)]); (try rw [decide_eq_false (p := 0 < r.ts) (by first | assumption | omega)]); (try rw [decide_eq_true (p := 0 = r.coord) (by first | assumption | omega)]); (try rw [decide_eq_false (p := 0 = r.coord) (by first | assumption | omega)]); (try rw [decide_eq_true (p := 0 = r.ts) (by first | assumption | omega)]); (try rw [decide_eq_false (p := 0 = r.ts) (by first | assumption | omega)]); (try rw [decide_eq_true (p := 0 = r.txn) (by first | assumption | omega)]); (try rw [decide_eq_false (p := 0 = r.txn) (by first | assumption | omega)]); (try rw [decide_eq_true (p := (r.text.size : Int) ≤ 2052) (by first | assumption | omega)]); (try rw [decide_eq_false (p := (r.text.size : Int) ≤ 2052) (by first | assumption | omega)]); (try rw [decide_eq_true (p := r.key.toList = []) (by assumption)]); (try rw [decide_eq_false (p := r.key.toList = []) (by assumption)]); (try rw [decide_eq_true (p := r.text.toList = []) (by assumption)]); (try rw [decide_eq_false (p := r.text.toList = []) (by assumption)]); (try rw [(by assumption : r.dead = true)]); (try rw [(by assumption : r.dead = false)]); (try rw [Bool.eq_false_iff.2 (by assumption : ¬r.dead = true)]); (try rw [(by assumption : noneB r = true)]); (try rw [(by assumption : noneB r = false)]); (try rw [Bool.eq_false_iff.2 (by assumption : ¬noneB r = true)]); (try rw [(by assumption : keyB r.key = true)]); (try rw [(by assumption : keyB r.key = false)]); (try rw [Bool.eq_false_iff.2 (by assumption : ¬keyB r.key = true)]); (try rw [(by assumption : listedB r.keys r.writes = true)]); (try rw [(by assumption : listedB r.keys r.writes = false)]); (try rw [Bool.eq_false_iff.2 (by assumption : ¬listedB r.keys r.writes = true)]); simp; done); rw [e]; rfl)
          | (have e : recBody r = false := (by rw [HR.out]; go_light; (try unfold flatB); (try rw [decide_eq_true (p := 0 < r.txn) (by first | assumption | omega)]); (try rw [decide_eq_false (p := 0 < r.txn) (by first | assumption | omega)]); (try rw [decide_eq_true (p := 0 < r.ts) (by first | assumption | omega)]); (try rw [decide_eq_false (p := 0 < r.ts) (by first | assumption | omega)]); (try rw [decide_eq_true (p := 0 = r.coord) (by first | assumption | omega)]); (try rw [decide_eq_false (p := 0 = r.coord) (by first | assumption | omega)]); (try rw [decide_eq_true (p := 0 = r.ts) (by first | assumption | omega)]); (try rw [decide_eq_false (p := 0 = r.ts) (by first | assumption | omega)]); (try rw [decide_eq_true (p := 0 = r.txn) (by first | assumption | omega)]); (try rw [decide_eq_false (p := 0 = r.txn) (by first | assumption | omega)]); (try rw [decide_eq_true (p := (r.text.size : Int) ≤ 2052) (by first | assumption | omega)]); (try rw [decide_eq_false (p := (r.text.size : Int) ≤ 2052) (by first | assumption | omega)]); (try rw [decide_eq_true (p := r.key.toList = []) (by assumption)]); (try rw [decide_eq_false (p := r.key.toList = []) (by assumption)]); (try rw [decide_eq_true (p := r.text.toList = []) (by assumption)]); (try rw [decide_eq_false (p := r.text.toList = []) (by assumption)]); (try rw [(by assumption : r.dead = true)]); (try rw [(by assumption : r.dead = false)]); (try rw [Bool.eq_false_iff.2 (by assumption : ¬r.dead = true)]); (try rw [(by assumption : noneB r = true)]); (try rw [(by assumption : noneB r = false)]); (try rw [Bool.eq_false_iff.2 (by assumption : ¬noneB r = true)]); (try rw [(by assumption : keyB r.key = true)]); (try rw [(by assumption : keyB r.key = false)]); (try rw [Bool.eq_false_iff.2 (by assumption : ¬keyB r.key = true)]); (try rw [(by assumption : listedB r.keys r.writes = true)]); (try rw [(by assumption : listedB r.keys r.writes = false)]); (try rw [Bool.eq_false_iff.2 (by assumption : ¬listedB r.keys r.writes = true)]); simp; done); rw [e]; rfl)
    · have HR := Lib.hid (recBody_3 hk)
      rw [hk] at b0 x0
      clear hk
      go_wp2_with (go_at_call 75; refine (key_any _ _).mono ?_; rintro e w' ⟨rfl, rfl⟩)
      all_goals
        go_ret
        refine ⟨?_, by repeat (with_reducible first | exact hbel.out | refine Below.setCell ?_ hBge _ | refine Below.drew ?_ | refine below_drewN ?_ _)⟩
        clear hbel hB hx
        first
          | (have e : recBody r = true := (by rw [HR.out]; go_light; (try unfold flatB); (try rw [decide_eq_true (p := 0 < r.txn) (by first | assumption | omega)]); (try rw [decide_eq_false (p := 0 < r.txn) (by first | assumption | omega)]); (try rw [decide_eq_true (p := 0 < r.ts) (by first | assumption | omega)]); (try rw [decide_eq_false (p := 0 < r.ts) (by first | assumption | omega)]); (try rw [decide_eq_true (p := 0 = r.coord) (by first | assumption | omega)]); (try rw [decide_eq_false (p := 0 = r.coord) (by first | assumption | omega)]); (try rw [decide_eq_true (p := 0 = r.ts) (by first | assumption | omega)]); (try rw [decide_eq_false (p := 0 = r.ts) (by first | assumption | omega)]); (try rw [decide_eq_true (p := 0 = r.txn) (by first | assumption | omega)]); (try rw [decide_eq_false (p := 0 = r.txn) (by first | assumption | omega)]); (try rw [decide_eq_true (p := (r.text.size : Int) ≤ 2052) (by first | assumption | omega)]); (try rw [decide_eq_false (p := (r.text.size : Int) ≤ 2052) (by first | assumption | omega)]); (try rw [decide_eq_true (p := r.key.toList = []) (by assumption)]); (try rw [decide_eq_false (p := r.key.toList = []) (by assumption)]); (try rw [decide_eq_true (p := r.text.toList = []) (by assumption)]); (try rw [decide_eq_false (p := r.text.toList = []) (by assumption)]); (try rw [(by assumption : r.dead = true)]); (try rw [(by assumption : r.dead = false)]); (try rw [Bool.eq_false_iff.2 (by assumption : ¬r.dead = true)]); (try rw [(by assumption : noneB r = true)]); (try rw [(by assumption : noneB r = false)]); (try rw [Bool.eq_false_iff.2 (by assumption : ¬noneB r = true)]); (try rw [(by assumption : keyB r.key = true)]); (try rw [(by assumption : keyB r.key = false)]); (try rw [Bool.eq_false_iff.2 (by assumption : ¬keyB r.key = true)]); (try rw [(by assumption : listedB r.keys r.writes = true)]); (try rw [(by assumption : listedB r.keys r.writes = false)]); (try rw [Bool.eq_false_iff.2 (by assumption : ¬listedB r.keys r.writes = true)]); simp; done); rw [e]; rfl)
          | (have e : recBody r = false := (by rw [HR.out]; go_light; (try unfold flatB); (try rw [decide_eq_true (p := 0 < r.txn) (by first | assumption | omega)]); (try rw [decide_eq_false (p := 0 < r.txn) (by first | assumption | omega)]); (try rw [decide_eq_true (p := 0 < r.ts) (by first | assumption | omega)]); (try rw [decide_eq_false (p := 0 < r.ts) (by first | assumption | omega)]); (try rw [decide_eq_true (p := 0 = r.coord) (by first | assumption | omega)]); (try rw [decide_eq_false (p := 0 = r.coord) (by first | assumption | omega)]); (try rw [decide_eq_true (p := 0 = r.ts) (by first | assumption | omega)]); (try rw [decide_eq_false (p := 0 = r.ts) (by first | assumption | omega)]); (try rw [decide_eq_true (p := 0 = r.txn) (by first | assumption | omega)]); (try rw [decide_eq_false (p := 0 = r.txn) (by first | assumption | omega)]); (try rw [decide_eq_true (p := (r.text.size : Int) ≤ 2052) (by first | assumption | omega)]); (try rw [decide_eq_false (p := (r.text.size : Int) ≤ 2052) (by first | assumption | omega)]); (try rw [decide_eq_true (p := r.key.toList = []) (by assumption)]); (try rw [decide_eq_false (p := r.key.toList = []) (by assumption)]); (try rw [decide_eq_true (p := r.text.toList = []) (by assumption)]); (try rw [decide_eq_false (p := r.text.toList = []) (by assumption)]); (try rw [(by assumption : r.dead = true)]); (try rw [(by assumption : r.dead = false)]); (try rw [Bool.eq_false_iff.2 (by assumption : ¬r.dead = true)]); (try rw [(by assumption : noneB r = true)]); (try rw [(by assumption : noneB r = false)]); (try rw [Bool.eq_false_iff.2 (by assumption : ¬noneB r = true)]); (try rw [(by assumption : keyB r.key = true)]); (try rw [(by assumption : keyB r.key = false)]); (try rw [Bool.eq_false_iff.2 (by assumption : ¬keyB r.key = true)]); (try rw [(by assumption : listedB r.keys r.writes = true)]); (try rw [(by assumption : listedB r.keys r.writes = false)]); (try rw [Bool.eq_false_iff.2 (by assumption : ¬listedB r.keys r.writes = true)]); simp; done); rw [e]; rfl)
    · have HR := Lib.hid (recBody_4 hk)
      rw [hk] at b0 x0
      clear hk
      go_wp2
      all_goals
        go_ret
        refine ⟨?_, by repeat (with_reducible first | exact hbel.out | refine Below.setCell ?_ hBge _ | refine Below.drew ?_ | refine below_drewN ?_ _)⟩
        clear hbel hB hx
        first
          | (have e : recBody r = true := (by rw [HR.out]; go_light; (try unfold flatB); (try rw [decide_eq_true (p := 0 < r.txn) (by first | assumption | omega)]); (try rw [decide_eq_false (p := 0 < r.txn) (by first | assumption | omega)]); (try rw [decide_eq_true (p := 0 < r.ts) (by first | assumption | omega)]); (try rw [decide_eq_false (p := 0 < r.ts) (by first | assumption | omega)]); (try rw [decide_eq_true (p := 0 = r.coord) (by first | assumption | omega)]); (try rw [decide_eq_false (p := 0 = r.coord) (by first | assumption | omega)]); (try rw [decide_eq_true (p := 0 = r.ts) (by first | assumption | omega)]); (try rw [decide_eq_false (p := 0 = r.ts) (by first | assumption | omega)]); (try rw [decide_eq_true (p := 0 = r.txn) (by first | assumption | omega)]); (try rw [decide_eq_false (p := 0 = r.txn) (by first | assumption | omega)]); (try rw [decide_eq_true (p := (r.text.size : Int) ≤ 2052) (by first | assumption | omega)]); (try rw [decide_eq_false (p := (r.text.size : Int) ≤ 2052) (by first | assumption | omega)]); (try rw [decide_eq_true (p := r.key.toList = []) (by assumption)]); (try rw [decide_eq_false (p := r.key.toList = []) (by assumption)]); (try rw [decide_eq_true (p := r.text.toList = []) (by assumption)]); (try rw [decide_eq_false (p := r.text.toList = []) (by assumption)]); (try rw [(by assumption : r.dead = true)]); (try rw [(by assumption : r.dead = false)]); (try rw [Bool.eq_false_iff.2 (by assumption : ¬r.dead = true)]); (try rw [(by assumption : noneB r = true)]); (try rw [(by assumption : noneB r = false)]); (try rw [Bool.eq_false_iff.2 (by assumption : ¬noneB r = true)]); (try rw [(by assumption : keyB r.key = true)]); (try rw [(by assumption : keyB r.key = false)]); (try rw [Bool.eq_false_iff.2 (by assumption : ¬keyB r.key = true)]); (try rw [(by assumption : listedB r.keys r.writes = true)]); (try rw [(by assumption : listedB r.keys r.writes = false)]); (try rw [Bool.eq_false_iff.2 (by assumption : ¬listedB r.keys r.writes = true)]); simp; done); rw [e]; rfl)
          | (have e : recBody r = false := (by rw [HR.out]; go_light; (try unfold flatB); (try rw [decide_eq_true (p := 0 < r.txn) (by first | assumption | omega)]); (try rw [decide_eq_false (p := 0 < r.txn) (by first | assumption | omega)]); (try rw [decide_eq_true (p := 0 < r.ts) (by first | assumption | omega)]); (try rw [decide_eq_false (p := 0 < r.ts) (by first | assumption | omega)]); (try rw [decide_eq_true (p := 0 = r.coord) (by first | assumption | omega)]); (try rw [decide_eq_false (p := 0 = r.coord) (by first | assumption | omega)]); (try rw [decide_eq_true (p := 0 = r.ts) (by first | assumption | omega)]); (try rw [decide_eq_false (p := 0 = r.ts) (by first | assumption | omega)]); (try rw [decide_eq_true (p := 0 = r.txn) (by first | assumption | omega)]); (try rw [decide_eq_false (p := 0 = r.txn) (by first | assumption | omega)]); (try rw [decide_eq_true (p := (r.text.size : Int) ≤ 2052) (by first | assumption | omega)]); (try rw [decide_eq_false (p := (r.text.size : Int) ≤ 2052) (by first | assumption | omega)]); (try rw [decide_eq_true (p := r.key.toList = []) (by assumption)]); (try rw [decide_eq_false (p := r.key.toList = []) (by assumption)]); (try rw [decide_eq_true (p := r.text.toList = []) (by assumption)]); (try rw [decide_eq_false (p := r.text.toList = []) (by assumption)]); (try rw [(by assumption : r.dead = true)]); (try rw [(by assumption : r.dead = false)]); (try rw [Bool.eq_false_iff.2 (by assumption : ¬r.dead = true)]); (try rw [(by assumption : noneB r = true)]); (try rw [(by assumption : noneB r = false)]); (try rw [Bool.eq_false_iff.2 (by assumption : ¬noneB r = true)]); (try rw [(by assumption : keyB r.key = true)]); (try rw [(by assumption : keyB r.key = false)]); (try rw [Bool.eq_false_iff.2 (by assumption : ¬keyB r.key = true)]); (try rw [(by assumption : listedB r.keys r.writes = true)]); (try rw [(by assumption : listedB r.keys r.writes = false)]); (try rw [Bool.eq_false_iff.2 (by assumption : ¬listedB r.keys r.writes = true)]); simp; done); rw [e]; rfl)
    · have HR := Lib.hid (recBody_5 hk)
      rw [hk] at b0 x0
      clear hk
      go_wp2
      all_goals
        go_ret
        refine ⟨?_, by repeat (with_reducible first | exact hbel.out | refine Below.setCell ?_ hBge _ | refine Below.drew ?_ | refine below_drewN ?_ _)⟩
        clear hbel hB hx
        first
          | (have e : recBody r = true := (by rw [HR.out]; go_light; (try unfold flatB); (try rw [decide_eq_true (p := 0 < r.txn) (by first | assumption | omega)]); (try rw [decide_eq_false (p := 0 < r.txn) (by first | assumption | omega)]); (try rw [decide_eq_true (p := 0 < r.ts) (by first | assumption | omega)]); (try rw [decide_eq_false (p := 0 < r.ts) (by first | assumption | omega)]); (try rw [decide_eq_true (p := 0 = r.coord) (by first | assumption | omega)]); (try rw [decide_eq_false (p := 0 = r.coord) (by first | assumption | omega)]); (try rw [decide_eq_true (p := 0 = r.ts) (by first | assumption | omega)]); (try rw [decide_eq_false (p := 0 = r.ts) (by first | assumption | omega)]); (try rw [decide_eq_true (p := 0 = r.txn) (by first | assumption | omega)]); (try rw [decide_eq_false (p := 0 = r.txn) (by first | assumption | omega)]); (try rw [decide_eq_true (p := (r.text.size : Int) ≤ 2052) (by first | assumption | omega)]); (try rw [decide_eq_false (p := (r.text.size : Int) ≤ 2052) (by first | assumption | omega)]); (try rw [decide_eq_true (p := r.key.toList = []) (by assumption)]); (try rw [decide_eq_false (p := r.key.toList = []) (by assumption)]); (try rw [decide_eq_true (p := r.text.toList = []) (by assumption)]); (try rw [decide_eq_false (p := r.text.toList = []) (by assumption)]); (try rw [(by assumption : r.dead = true)]); (try rw [(by assumption : r.dead = false)]); (try rw [Bool.eq_false_iff.2 (by assumption : ¬r.dead = true)]); (try rw [(by assumption : noneB r = true)]); (try rw [(by assumption : noneB r = false)]); (try rw [Bool.eq_false_iff.2 (by assumption : ¬noneB r = true)]); (try rw [(by assumption : keyB r.key = true)]); (try rw [(by assumption : keyB r.key = false)]); (try rw [Bool.eq_false_iff.2 (by assumption : ¬keyB r.key = true)]); (try rw [(by assumption : listedB r.keys r.writes = true)]); (try rw [(by assumption : listedB r.keys r.writes = false)]); (try rw [Bool.eq_false_iff.2 (by assumption : ¬listedB r.keys r.writes = true)]); simp; done); rw [e]; rfl)
          | (have e : recBody r = false := (by rw [HR.out]; go_light; (try unfold flatB); (try rw [decide_eq_true (p := 0 < r.txn) (by first | assumption | omega)]); (try rw [decide_eq_false (p := 0 < r.txn) (by first | assumption | omega)]); (try rw [decide_eq_true (p := 0 < r.ts) (by first | assumption | omega)]); (try rw [decide_eq_false (p := 0 < r.ts) (by first | assumption | omega)]); (try rw [decide_eq_true (p := 0 = r.coord) (by first | assumption | omega)]); (try rw [decide_eq_false (p := 0 = r.coord) (by first | assumption | omega)]); (try rw [decide_eq_true (p := 0 = r.ts) (by first | assumption | omega)]); (try rw [decide_eq_false (p := 0 = r.ts) (by first | assumption | omega)]); (try rw [decide_eq_true (p := 0 = r.txn) (by first | assumption | omega)]); (try rw [decide_eq_false (p := 0 = r.txn) (by first | assumption | omega)]); (try rw [decide_eq_true (p := (r.text.size : Int) ≤ 2052) (by first | assumption | omega)]); (try rw [decide_eq_false (p := (r.text.size : Int) ≤ 2052) (by first | assumption | omega)]); (try rw [decide_eq_true (p := r.key.toList = []) (by assumption)]); (try rw [decide_eq_false (p := r.key.toList = []) (by assumption)]); (try rw [decide_eq_true (p := r.text.toList = []) (by assumption)]); (try rw [decide_eq_false (p := r.text.toList = []) (by assumption)]); (try rw [(by assumption : r.dead = true)]); (try rw [(by assumption : r.dead = false)]); (try rw [Bool.eq_false_iff.2 (by assumption : ¬r.dead = true)]); (try rw [(by assumption : noneB r = true)]); (try rw [(by assumption : noneB r = false)]); (try rw [Bool.eq_false_iff.2 (by assumption : ¬noneB r = true)]); (try rw [(by assumption : keyB r.key = true)]); (try rw [(by assumption : keyB r.key = false)]); (try rw [Bool.eq_false_iff.2 (by assumption : ¬keyB r.key = true)]); (try rw [(by assumption : listedB r.keys r.writes = true)]); (try rw [(by assumption : listedB r.keys r.writes = false)]); (try rw [Bool.eq_false_iff.2 (by assumption : ¬listedB r.keys r.writes = true)]); simp; done); rw [e]; rfl)
    · have HR := Lib.hid (recBody_6 hk)
      rw [hk] at b0 x0
      clear hk
      cases hno : noneB r
      all_goals
        rw [hno] at HR
        go_wp2
        (first | go_region | fail "no")
      all_goals
        go_wp2
      all_goals
        go_ret
        refine ⟨?_, by repeat (with_reducible first | exact hbel.out | refine Below.setCell ?_ hBge _ | refine Below.drew ?_ | refine below_drewN ?_ _)⟩
        clear hbel hB hx
        first
          | (have e : recBody r = true := (by rw [HR.out]; go_light; (try unfold flatB); (try rw [decide_eq_true (p := 0 < r.txn) (by first | assumption | omega)]); (try rw [decide_eq_false (p := 0 < r.txn) (by first | assumption | omega)]); (try rw [decide_eq_true (p := 0 < r.ts) (by first | assumption | omega)]); (try rw [decide_eq_false (p := 0 < r.ts) (by first | assumption | omega)]); (try rw [decide_eq_true (p := 0 = r.coord) (by first | assumption | omega)]); (try rw [decide_eq_false (p := 0 = r.coord) (by first | assumption | omega)]); (try rw [decide_eq_true (p := 0 = r.ts) (by first | assumption | omega)]); (try rw [decide_eq_false (p := 0 = r.ts) (by first | assumption | omega)]); (try rw [decide_eq_true (p := 0 = r.txn) (by first | assumption | omega)]); (try rw [decide_eq_false (p := 0 = r.txn) (by first | assumption | omega)]); (try rw [decide_eq_true (p := (r.text.size : Int) ≤ 2052) (by first | assumption | omega)]); (try rw [decide_eq_false (p := (r.text.size : Int) ≤ 2052) (by first | assumption | omega)]); (try rw [decide_eq_true (p := r.key.toList = []) (by assumption)]); (try rw [decide_eq_false (p := r.key.toList = []) (by assumption)]); (try rw [decide_eq_true (p := r.text.toList = []) (by assumption)]); (try rw [decide_eq_false (p := r.text.toList = []) (by assumption)]); (try rw [(by assumption : r.dead = true)]); (try rw [(by assumption : r.dead = false)]); (try rw [Bool.eq_false_iff.2 (by assumption : ¬r.dead = true)]); (try rw [(by assumption : noneB r = true)]); (try rw [(by assumption : noneB r = false)]); (try rw [Bool.eq_false_iff.2 (by assumption : ¬noneB r = true)]); (try rw [(by assumption : keyB r.key = true)]); (try rw [(by assumption : keyB r.key = false)]); (try rw [Bool.eq_false_iff.2 (by assumption : ¬keyB r.key = true)]); (try rw [(by assumption : listedB r.keys r.writes = true)]); (try rw [(by assumption : listedB r.keys r.writes = false)]); (try rw [Bool.eq_false_iff.2 (by assumption : ¬listedB r.keys r.writes = true)]); simp; done); rw [e]; rfl)
          | (have e : recBody r = false := (by rw [HR.out]; go_light; (try unfold flatB); (try rw [decide_eq_true (p := 0 < r.txn) (by first | assumption | omega)]); (try rw [decide_eq_false (p := 0 < r.txn) (by first | assumption | omega)]); (try rw [decide_eq_true (p := 0 < r.ts) (by first | assumption | omega)]); (try rw [decide_eq_false (p := 0 < r.ts) (by first | assumption | omega)]); (try rw [decide_eq_true (p := 0 = r.coord) (by first | assumption | omega)]); (try rw [decide_eq_false (p := 0 = r.coord) (by first | assumption | omega)]); (try rw [decide_eq_true (p := 0 = r.ts) (by first | assumption | omega)]); (try rw [decide_eq_false (p := 0 = r.ts) (by first | assumption | omega)]); (try rw [decide_eq_true (p := 0 = r.txn) (by first | assumption | omega)]); (try rw [decide_eq_false (p := 0 = r.txn) (by first | assumption | omega)]); (try rw [decide_eq_true (p := (r.text.size : Int) ≤ 2052) (by first | assumption | omega)]); (try rw [decide_eq_false (p := (r.text.size : Int) ≤ 2052) (by first | assumption | omega)]); (try rw [decide_eq_true (p := r.key.toList = []) (by assumption)]); (try rw [decide_eq_false (p := r.key.toList = []) (by assumption)]); (try rw [decide_eq_true (p := r.text.toList = []) (by assumption)]); (try rw [decide_eq_false (p := r.text.toList = []) (by assumption)]); (try rw [(by assumption : r.dead = true)]); (try rw [(by assumption : r.dead = false)]); (try rw [Bool.eq_false_iff.2 (by assumption : ¬r.dead = true)]); (try rw [(by assumption : noneB r = true)]); (try rw [(by assumption : noneB r = false)]); (try rw [Bool.eq_false_iff.2 (by assumption : ¬noneB r = true)]); (try rw [(by assumption : keyB r.key = true)]); (try rw [(by assumption : keyB r.key = false)]); (try rw [Bool.eq_false_iff.2 (by assumption : ¬keyB r.key = true)]); (try rw [(by assumption : listedB r.keys r.writes = true)]); (try rw [(by assumption : listedB r.keys r.writes = false)]); (try rw [Bool.eq_false_iff.2 (by assumption : ¬listedB r.keys r.writes = true)]); simp; done); rw [e]; rfl)
    · have HR := Lib.hid (recBody_7 hk)
      rw [hk] at b0 x0
      clear hk
      cases hno : noneB r
      all_goals
        rw [hno] at HR
        go_wp2
        (first | go_region | fail "no")
      all_goals
        go_wp2
      all_goals
        go_ret
        refine ⟨?_, by repeat (with_reducible first | exact hbel.out | refine Below.setCell ?_ hBge _ | refine Below.drew ?_ | refine below_drewN ?_ _)⟩
        clear hbel hB hx
        first
          | (have e : recBody r = true := (by rw [HR.out]; go_light; (try unfold flatB); (try rw [decide_eq_true (p := 0 < r.txn) (by first | assumption | omega)]); (try rw [decide_eq_false (p := 0 < r.txn) (by first | assumption | omega)]); (try rw [decide_eq_true (p := 0 < r.ts) (by first | assumption | omega)]); (try rw [decide_eq_false (p := 0 < r.ts) (by first | assumption | omega)]); (try rw [decide_eq_true (p := 0 = r.coord) (by first | assumption | omega)]); (try rw [decide_eq_false (p := 0 = r.coord) (by first | assumption | omega)]); (try rw [decide_eq_true (p := 0 = r.ts) (by first | assumption | omega)]); (try rw [decide_eq_false (p := 0 = r.ts) (by first | assumption | omega)]); (try rw [decide_eq_true (p := 0 = r.txn) (by first | assumption | omega)]); (try rw [decide_eq_false (p := 0 = r.txn) (by first | assumption | omega)]); (try rw [decide_eq_true (p := (r.text.size : Int) ≤ 2052) (by first | assumption | omega)]); (try rw [decide_eq_false (p := (r.text.size : Int) ≤ 2052) (by first | assumption | omega)]); (try rw [decide_eq_true (p := r.key.toList = []) (by assumption)]); (try rw [decide_eq_false (p := r.key.toList = []) (by assumption)]); (try rw [decide_eq_true (p := r.text.toList = []) (by assumption)]); (try rw [decide_eq_false (p := r.text.toList = []) (by assumption)]); (try rw [(by assumption : r.dead = true)]); (try rw [(by assumption : r.dead = false)]); (try rw [Bool.eq_false_iff.2 (by assumption : ¬r.dead = true)]); (try rw [(by assumption : noneB r = true)]); (try rw [(by assumption : noneB r = false)]); (try rw [Bool.eq_false_iff.2 (by assumption : ¬noneB r = true)]); (try rw [(by assumption : keyB r.key = true)]); (try rw [(by assumption : keyB r.key = false)]); (try rw [Bool.eq_false_iff.2 (by assumption : ¬keyB r.key = true)]); (try rw [(by assumption : listedB r.keys r.writes = true)]); (try rw [(by assumption : listedB r.keys r.writes = false)]); (try rw [Bool.eq_false_iff.2 (by assumption : ¬listedB r.keys r.writes = true)]); simp; done); rw [e]; rfl)
          | (have e : recBody r = false := (by rw [HR.out]; go_light; (try unfold flatB); (try rw [decide_eq_true (p := 0 < r.txn) (by first | assumption | omega)]); (try rw [decide_eq_false (p := 0 < r.txn) (by first | assumption | omega)]); (try rw [decide_eq_true (p := 0 < r.ts) (by first | assumption | omega)]); (try rw [decide_eq_false (p := 0 < r.ts) (by first | assumption | omega)]); (try rw [decide_eq_true (p := 0 = r.coord) (by first | assumption | omega)]); (try rw [decide_eq_false (p := 0 = r.coord) (by first | assumption | omega)]); (try rw [decide_eq_true (p := 0 = r.ts) (by first | assumption | omega)]); (try rw [decide_eq_false (p := 0 = r.ts) (by first | assumption | omega)]); (try rw [decide_eq_true (p := 0 = r.txn) (by first | assumption | omega)]); (try rw [decide_eq_false (p := 0 = r.txn) (by first | assumption | omega)]); (try rw [decide_eq_true (p := (r.text.size : Int) ≤ 2052) (by first | assumption | omega)]); (try rw [decide_eq_false (p := (r.text.size : Int) ≤ 2052) (by first | assumption | omega)]); (try rw [decide_eq_true (p := r.key.toList = []) (by assumption)]); (try rw [decide_eq_false (p := r.key.toList = []) (by assumption)]); (try rw [decide_eq_true (p := r.text.toList = []) (by assumption)]); (try rw [decide_eq_false (p := r.text.toList = []) (by assumption)]); (try rw [(by assumption : r.dead = true)]); (try rw [(by assumption : r.dead = false)]); (try rw [Bool.eq_false_iff.2 (by assumption : ¬r.dead = true)]); (try rw [(by assumption : noneB r = true)]); (try rw [(by assumption : noneB r = false)]); (try rw [Bool.eq_false_iff.2 (by assumption : ¬noneB r = true)]); (try rw [(by assumption : keyB r.key = true)]); (try rw [(by assumption : keyB r.key = false)]); (try rw [Bool.eq_false_iff.2 (by assumption : ¬keyB r.key = true)]); (try rw [(by assumption : listedB r.keys r.writes = true)]); (try rw [(by assumption : listedB r.keys r.writes = false)]); (try rw [Bool.eq_false_iff.2 (by assumption : ¬listedB r.keys r.writes = true)]); simp; done); rw [e]; rfl)
    · have HR := Lib.hid (recBody_o hk)
      have d1 : (r.kind == 1) = false := beq_eq_false_iff_ne.2 hk.1
      have d2 : (r.kind == 2) = false := beq_eq_false_iff_ne.2 hk.2.1
      have d3 : (r.kind == 3) = false := beq_eq_false_iff_ne.2 hk.2.2.1
      have d4 : (r.kind == 4) = false := beq_eq_false_iff_ne.2 hk.2.2.2.1
      have d5 : (r.kind == 5) = false := beq_eq_false_iff_ne.2 hk.2.2.2.2.1
      have d6 : (r.kind == 6) = false := beq_eq_false_iff_ne.2 hk.2.2.2.2.2.1
      have d7 : (r.kind == 7) = false := beq_eq_false_iff_ne.2 hk.2.2.2.2.2.2
      clear hk
      go_wp2
      go_ret
      exact ⟨by rw [HR.out]; rfl, hbel.out⟩
end Go.Proofs.Ytokfbikiicfafaa
