/- shelf.New, copied. -/
import Derived.Test.YtokfbikiicfafaaSn
import Derived.Deep.RegionWith
namespace Go.Proofs.Ytokfbikiicfafaa
open Go.RowKit Go.Maps
set_option linter.unusedVariables false

def ShS.none : ShS := ⟨.map [], .map [], [], 0⟩

theorem owns_empty {H : Type} {P : Program} {k : TypeId} {R : Value → Option (DataW H × List MemPlace)} {w : World} {b : Nat} (h : w.heap[b]? = some (.map #[] 0)) : w.ownsMap P k R b (Maps.size (.map [] : DataW H)) (.map []) :=
  ⟨#[], 0, h, ⟨by simp [maxLen], (Go.MapKept.stamped_iff #[] 0).2 ⟨by simp, by simp, by simp⟩, by simp⟩, by simp [Maps.size], rfl⟩

theorem new_any {base : Nat} (ok : Nat → Prop) (w : World) (hbase : base ≤ w.heap.size) (hno : ∀ b, ok b → b < w.heap.size) :
    Calls Try.prog 32 #[] w fun e w' => e = .returned (.pointer (some ⟨w.heap.size + 2, 0, none⟩)) ∧ ShAt w' base ok (w.heap.size + 2) w.heap.size (w.heap.size + 1) (.slice none 0 0) ShS.none ∧ Below w.heap.size w w' := by
  have hm := fun W => run_makeMap (P := Try.prog) 74 W
  have hm2 := fun W => run_makeMap (P := Try.prog) 75 W
  go_enter Try.func32, Try.ntmps32
  go_wp2
  go_ret
  have b0 : (((w.alloc (Obj.map #[] 0)).alloc (Obj.map #[] 0)).alloc (Obj.cells #[Value.map (some w.heap.size), Value.map (some (w.heap.size + 1)), Value.slice none 0 0, Value.int IntKind.i64 0] 78 (0, 0))).heap[w.heap.size]? = some (.map #[] 0) := alloc_old (alloc_old (alloc_blk rfl))
  have b1 : (((w.alloc (Obj.map #[] 0)).alloc (Obj.map #[] 0)).alloc (Obj.cells #[Value.map (some w.heap.size), Value.map (some (w.heap.size + 1)), Value.slice none 0 0, Value.int IntKind.i64 0] 78 (0, 0))).heap[w.heap.size + 1]? = some (.map #[] 0) := alloc_old (alloc_blk (by simp))
  have b2 : (((w.alloc (Obj.map #[] 0)).alloc (Obj.map #[] 0)).alloc (Obj.cells #[Value.map (some w.heap.size), Value.map (some (w.heap.size + 1)), Value.slice none 0 0, Value.int IntKind.i64 0] 78 (0, 0))).heap[w.heap.size + 2]? = some (.cells #[Value.map (some w.heap.size), Value.map (some (w.heap.size + 1)), Value.slice none 0 0, Value.int IntKind.i64 0] 78 (0, 0)) := alloc_blk (by simp)
  refine ⟨rfl, ⟨b2, owns_empty b0, owns_empty b1, ?_, by omega, hbase, by omega, fun h => by have := hno _ h; omega, fun h => by have := hno _ h; omega, fun h => by have := hno _ h; omega, ?_, by omega, fun b hb => by have := hno b hb; simp; omega⟩, ?_⟩
  · exact ⟨by simp [ShS.none], .inl ⟨rfl, rfl⟩⟩
  · intro k hk
    simp [Value.ownBlock] at hk
  · repeat (with_reducible first | exact Below.refl _ _ | refine Below.setCell ?_ (by simp) _ | refine Below.drew ?_ | refine below_drewN ?_ _ | refine Below.alloc ?_ (by simp; try omega) _)

theorem results_copied (tmps : Array Value) (W : World) (b : Nat) (T : TypeId) (h2 : tmps[2]? = some (.pointer (some ⟨b, 0, none⟩))) (cs : Array Value) (fr : Nat × Nat) (u0 u1 u2 u3 u4 u5 u6 u7 u8 : Value) (hx : W.heap[b]? = some (.cells cs T fr))
    (g : cs = #[u0, u1, u2, u3, u4, u5, u6, u7, u8]) :
    (results Try.f54 tmps).run Try.prog W = .ok (.agg #[u0, u1, u2, u3, u4, u5, u6, u7, u8]) W := by
  subst g
  have k0 := cell_blk (i := 0) hx rfl
  have k1 := cell_blk (i := 1) hx rfl
  have k2 := cell_blk (i := 2) hx rfl
  have k3 := cell_blk (i := 3) hx rfl
  have k4 := cell_blk (i := 4) hx rfl
  have k5 := cell_blk (i := 5) hx rfl
  have k6 := cell_blk (i := 6) hx rfl
  have k7 := cell_blk (i := 7) hx rfl
  have k8 := cell_blk (i := 8) hx rfl
  simp [results, Try.results54, go_sem, h2, k0, k1, k2, k3, k4, k5, k6, k7, k8]

/-- A row made by a callee, read. -/
theorem fresh_rdv {α : Type} {k e n : Nat} {enc : α → List Value} {xs : List α} {W : World} {args : Array Value} (hk : ∀ x, (enc x).length = k)
    (h : Calls Try.prog n args W fun e' w' => ∃ v, e' = .returned v ∧ w'.ownsRow W.heap.size e k v xs.length (xs.flatMap enc) ∧ Below W.heap.size W w') :
    Calls Try.prog n args W fun e' w' => ∃ B d, e' = .returned (.slice B xs.length d) ∧ RdV k enc w' (fun b => W.heap.size ≤ b) (.slice B xs.length d) xs ∧ Below W.heap.size W w' := by
  refine h.mono ?_
  rintro e' w' ⟨v, rfl, ho, hb⟩
  have hr := own_rdv ho hk
  obtain ⟨B, d, ev, h1, h2, h3⟩ := hr
  subst ev
  refine ⟨B, d, rfl, ⟨B, d, rfl, h1, h2, ?_⟩, hb⟩
  exact h3.move (fun _ _ _ => rfl) (Nat.le_refl _) (fun b hb' _ => (own_block_lt ho hb').1)

theorem RdV.set {α : Type} {k n : Nat} {enc : α → List Value} {w : World} {v : Value} {xs : List α} (h : RdV k enc w (fun b => n ≤ b) v xs) (a : Addr) (u : Value) (ha : a.block < n) : RdV k enc (w.setCell a u) (fun b => n ≤ b) v xs :=
  h.move (fun b hb _ => Below.heap_setCell _ _ _ _ (by have h1 : n ≤ b := hb; show b ≠ a.block; omega)) (by simp) (fun _ h _ => h)

set_option maxHeartbeats 4000000 in
set_option maxRecDepth 100000 in
theorem copied_any (ok : Nat → Prop) (A7 A8 : Option Addr) (c7 c8 : Nat) (r : Rec) (w : World) (s7 : RdSl 1 encS w ok A7 r.keys) (s8 : RdSl 3 encWr w ok A8 r.writes) (hk : r.keys.length ≤ 16) (hw : r.writes.length ≤ 16) :
    Calls Try.prog 54 #[.agg #[.int .i64 r.kind, .int .i64 r.txn, .int .i64 r.ts, .int .i64 r.coord, .string r.key, .string r.text, .bool r.dead, .slice A7 r.keys.length c7, .slice A8 r.writes.length c8]] w fun e w' => ∃ v7 v8, e = .returned (recVal r v7 v8) ∧ RdV 1 encS w' (fun b => w.heap.size ≤ b) v7 r.keys ∧ RdV 3 encWr w' (fun b => w.heap.size ≤ b) v8 r.writes ∧ Below w.heap.size w w' := by
  have hS := fun (W : World) (hW : Below w.heap.size w W) => fresh_rdv (e := 9) len_encS (clone_str ok A7 c7 r.keys W (s7.below hW) (by omega))
  have hR := fun (W : World) (hW : Below w.heap.size w W) => fresh_rdv (e := 56) len_encWr (clone_wr ok A8 c8 r.writes W (s8.below hW) (by omega))
  have hB : Below w.heap.size w ((w.alloc (.cells #[.int .i64 r.kind, .int .i64 r.txn, .int .i64 r.ts, .int .i64 r.coord, .string r.key, .string r.text, .bool r.dead, .slice A7 r.keys.length c7, .slice A8 r.writes.length c8] 35 (0, 0))).alloc (.cells #[.int .i64 0, .int .i64 0, .int .i64 0, .int .i64 0, .string ⟨#[]⟩, .string ⟨#[]⟩, .bool false, .slice none 0 0, .slice none 0 0] 35 (0, 0))) := by repeat (with_reducible first | exact Below.refl _ _ | refine Below.setCell ?_ (by simp) _ | refine Below.drew ?_ | refine below_drewN ?_ _ | refine Below.alloc ?_ (by simp) _)
  clear s7 s8
  have hsz : w.heap.size + 2 ≤ ((w.alloc (.cells #[.int .i64 r.kind, .int .i64 r.txn, .int .i64 r.ts, .int .i64 r.coord, .string r.key, .string r.text, .bool r.dead, .slice A7 r.keys.length c7, .slice A8 r.writes.length c8] 35 (0, 0))).alloc (.cells #[.int .i64 0, .int .i64 0, .int .i64 0, .int .i64 0, .string ⟨#[]⟩, .string ⟨#[]⟩, .bool false, .slice none 0 0, .slice none 0 0] 35 (0, 0))).heap.size := by simp
  go_enter Try.func54, Try.ntmps54
  go_wp2
  have x1 : ((w.alloc (.cells #[.int .i64 r.kind, .int .i64 r.txn, .int .i64 r.ts, .int .i64 r.coord, .string r.key, .string r.text, .bool r.dead, .slice A7 r.keys.length c7, .slice A8 r.writes.length c8] 35 (0, 0))).alloc (.cells #[.int .i64 0, .int .i64 0, .int .i64 0, .int .i64 0, .string ⟨#[]⟩, .string ⟨#[]⟩, .bool false, .slice none 0 0, .slice none 0 0] 35 (0, 0))).heap[w.heap.size]? = some (.cells #[.int .i64 r.kind, .int .i64 r.txn, .int .i64 r.ts, .int .i64 r.coord, .string r.key, .string r.text, .bool r.dead, .slice A7 r.keys.length c7, .slice A8 r.writes.length c8] 35 (0, 0)) := alloc_old (alloc_blk rfl)
  have x2 : ((w.alloc (.cells #[.int .i64 r.kind, .int .i64 r.txn, .int .i64 r.ts, .int .i64 r.coord, .string r.key, .string r.text, .bool r.dead, .slice A7 r.keys.length c7, .slice A8 r.writes.length c8] 35 (0, 0))).alloc (.cells #[.int .i64 0, .int .i64 0, .int .i64 0, .int .i64 0, .string ⟨#[]⟩, .string ⟨#[]⟩, .bool false, .slice none 0 0, .slice none 0 0] 35 (0, 0))).heap[w.heap.size + 1]? = some (.cells #[.int .i64 0, .int .i64 0, .int .i64 0, .int .i64 0, .string ⟨#[]⟩, .string ⟨#[]⟩, .bool false, .slice none 0 0, .slice none 0 0] 35 (0, 0)) := alloc_blk (by simp)
  generalize hW0 : (w.alloc (.cells #[.int .i64 r.kind, .int .i64 r.txn, .int .i64 r.ts, .int .i64 r.coord, .string r.key, .string r.text, .bool r.dead, .slice A7 r.keys.length c7, .slice A8 r.writes.length c8] 35 (0, 0))).alloc (.cells #[.int .i64 0, .int .i64 0, .int .i64 0, .int .i64 0, .string ⟨#[]⟩, .string ⟨#[]⟩, .bool false, .slice none 0 0, .slice none 0 0] 35 (0, 0)) = W0 at hB hsz x1 x2 ⊢
  clear hW0
  have a7 := cell_blk (i := 7) x1 rfl
  have a8 := cell_blk (i := 8) x1 rfl
  have HB := Lib.hid hB
  have HZ := Lib.hid hsz
  clear hB hsz
  go_region_with (first
    | (go_at_call 99; refine (hS _ ?_).mono ?_; (with_reducible first | exact HB.out.drew | exact hw1.out); rintro e w1 ⟨B7, d7, rfl, hn7, hb1⟩; have hw1 := Lib.hid (below_thru HB.out.drew hb1); have n7 := Lib.hid (hn7.move (fun _ _ _ => rfl) (Nat.le_refl _) (fun b hb _ => Nat.le_trans HZ.out hb) : RdV 1 encS w1 (fun b => w.heap.size + 2 ≤ b) _ _); have sz1 := Lib.hid (Nat.le_trans HZ.out hb1.size : w.heap.size + 2 ≤ w1.heap.size); clear hn7; have y1 := cellsLater hb1 (drew_blk x1); have y2 := cellsLater hb1 (drew_blk x2); clear a7 a8; have a7 := cell_blk (i := 7) y1 rfl; have a8 := cell_blk (i := 8) y1 rfl)
    | (go_at_call 100; refine (hR _ ?_).mono ?_; (with_reducible first | exact hw1.out); rintro e w2 ⟨B8, d8, rfl, hn8, hb2⟩; have hw2 := Lib.hid (below_thru hw1.out hb2); have n8 := Lib.hid (hn8.move (fun _ _ _ => rfl) (Nat.le_refl _) (fun b hb _ => Nat.le_trans sz1.out hb) : RdV 3 encWr w2 (fun b => w.heap.size + 2 ≤ b) _ _); have N7 := Lib.hid (n7.out.move (fun b _ hl => hb2.block b hl) hb2.size (fun _ h _ => h) : RdV 1 encS w2 (fun b => w.heap.size + 2 ≤ b) _ _); clear hn8 n7; have z1 := cellsLater hb2 y1; have z2 := cellsLater hb2 y2; clear a7 a8; have a7 := cell_blk (i := 7) z1 rfl; have a8 := cell_blk (i := 8) z1 rfl; have f7 := frozen_blk (i := 7) z1; have f8 := frozen_blk (i := 8) z1))
  all_goals
    have q1 := set_blk (i := 8) (u := .slice B8 r.writes.length d8) (set_blk (i := 7) (u := .slice B7 r.keys.length d7) z1)
    have q2 := set_far (a := ⟨w.heap.size, 8, none⟩) (u := .slice B8 r.writes.length d8) (set_far (a := ⟨w.heap.size, 7, none⟩) (u := .slice B7 r.keys.length d7) z2 (by simp)) (by simp)
    have M7 := Lib.hid (N7.out.move (w' := (w2.setCell ⟨w.heap.size, 7, none⟩ (.slice B7 r.keys.length d7)).setCell ⟨w.heap.size, 8, none⟩ (.slice B8 r.writes.length d8)) (fun b hb hl => by rw [Below.heap_setCell _ _ _ _ (by show b ≠ w.heap.size; omega), Below.heap_setCell _ _ _ _ (by show b ≠ w.heap.size; omega)]) (by simp) (fun _ h _ => h))
    have M8 := Lib.hid (n8.out.move (w' := (w2.setCell ⟨w.heap.size, 7, none⟩ (.slice B7 r.keys.length d7)).setCell ⟨w.heap.size, 8, none⟩ (.slice B8 r.writes.length d8)) (fun b hb hl => by rw [Below.heap_setCell _ _ _ _ (by show b ≠ w.heap.size; omega), Below.heap_setCell _ _ _ _ (by show b ≠ w.heap.size; omega)]) (by simp) (fun _ h _ => h))
    have hw3 := Lib.hid ((hw2.out.setCell (by simp) _).setCell (by simp) _ : Below w.heap.size w ((w2.setCell ⟨w.heap.size, 7, none⟩ (.slice B7 r.keys.length d7)).setCell ⟨w.heap.size, 8, none⟩ (.slice B8 r.writes.length d8)))
    clear a7 a8 f7 f8 z1 z2 y1 y2 hw1 hw2 N7 n8
    generalize (w2.setCell ⟨w.heap.size, 7, none⟩ (.slice B7 r.keys.length d7)).setCell ⟨w.heap.size, 8, none⟩ (.slice B8 r.writes.length d8) = W3 at q1 q2 M7 M8 hw3 ⊢
    have p0 := cell_blk (i := 0) q1 rfl
    have p1 := cell_blk (i := 1) q1 rfl
    have p2 := cell_blk (i := 2) q1 rfl
    have p3 := cell_blk (i := 3) q1 rfl
    have p4 := cell_blk (i := 4) q1 rfl
    have p5 := cell_blk (i := 5) q1 rfl
    have p6 := cell_blk (i := 6) q1 rfl
    have p7 := cell_blk (i := 7) q1 rfl
    have p8 := cell_blk (i := 8) q1 rfl
    have t0 := cell_blk (i := 0) q2 rfl
    have t1 := cell_blk (i := 1) q2 rfl
    have t2 := cell_blk (i := 2) q2 rfl
    have t3 := cell_blk (i := 3) q2 rfl
    have t4 := cell_blk (i := 4) q2 rfl
    have t5 := cell_blk (i := 5) q2 rfl
    have t6 := cell_blk (i := 6) q2 rfl
    have t7 := cell_blk (i := 7) q2 rfl
    have t8 := cell_blk (i := 8) q2 rfl
    have f := fun i => frozen_blk (i := i) q2
    go_wp2
    have q3 := (set_blk (i := 8) (u := (.slice B8 r.writes.length d8)) (set_blk (i := 7) (u := (.slice B7 r.keys.length d7)) (set_blk (i := 6) (u := (.bool r.dead)) (set_blk (i := 5) (u := (.string r.text)) (set_blk (i := 4) (u := (.string r.key)) (set_blk (i := 3) (u := (.int .i64 r.coord)) (set_blk (i := 2) (u := (.int .i64 r.ts)) (set_blk (i := 1) (u := (.int .i64 r.txn)) (set_blk (i := 0) (u := (.int .i64 r.kind)) q2)))))))))
    refine bodyPost_ret (results_copied _ _ _ _ rfl _ _ (.int .i64 r.kind) (.int .i64 r.txn) (.int .i64 r.ts) (.int .i64 r.coord) (.string r.key) (.string r.text) (.bool r.dead) (.slice B7 r.keys.length d7) (.slice B8 r.writes.length d8) q3 (by simp)) rfl ⟨.slice B7 r.keys.length d7, .slice B8 r.writes.length d8, rfl, ?_, ?_, ?_⟩
    · refine RdV.move (ok := fun b => w.heap.size + 2 ≤ b) ?_ (fun _ _ _ => rfl) (Nat.le_refl _) (fun b hb _ => by have h1 : w.heap.size + 2 ≤ b := hb; show w.heap.size ≤ b; omega)
      repeat (with_reducible first | exact M7.out | refine RdV.set ?_ _ _ (by simp))
    · refine RdV.move (ok := fun b => w.heap.size + 2 ≤ b) ?_ (fun _ _ _ => rfl) (Nat.le_refl _) (fun b hb _ => by have h1 : w.heap.size + 2 ≤ b := hb; show w.heap.size ≤ b; omega)
      repeat (with_reducible first | exact M8.out | refine RdV.set ?_ _ _ (by simp))
    · repeat (with_reducible first | exact hw3.out | refine Below.setCell ?_ (by simp) _ | refine Below.drew ?_ | refine below_drewN ?_ _ | refine Below.alloc ?_ (by simp) _)
end Go.Proofs.Ytokfbikiicfafaa
