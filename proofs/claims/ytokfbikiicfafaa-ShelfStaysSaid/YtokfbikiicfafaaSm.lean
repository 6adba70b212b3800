/- shelf.State, Last, Read, Swept, New. -/
import Derived.Test.YtokfbikiicfafaaSl
import Derived.RegionTactic
namespace Go.Proofs.Ytokfbikiicfafaa
open Go.RowKit Go.Maps
set_option linter.unusedVariables false

def finOf (E : List Fin2) (txn : Int) : Int × Int := match E.find? (fun x => x.txn == txn) with
  | none => (0, 0)
  | some x => if x.ts = 0 then (3, 0) else (2, x.ts)
def stateOf (S : ShS) (txn : Int) : Int × Int := if Maps.has S.P (.int .i64 txn) = true then (1, 0) else finOf S.E txn

theorem finOf_miss {E : List Fin2} {txn : Int} (h : ∀ (j : Nat) (y : Fin2), E[j]? = some y → (y.txn == txn) = false) : finOf E txn = (0, 0) := by
  have : E.find? (fun x => x.txn == txn) = none := List.find?_eq_none.2 fun x hx => by
    obtain ⟨j, hj⟩ := List.getElem?_of_mem hx
    simpa using h j x hj
  unfold finOf
  rw [this]
theorem finOf_hit {E : List Fin2} {txn : Int} {k : Nat} {x : Fin2} (hx : E[k]? = some x) (hp : (x.txn == txn) = true) (ha : ∀ (j : Nat) (y : Fin2), j < k → E[j]? = some y → (y.txn == txn) = false) : finOf E txn = if x.ts = 0 then (3, 0) else (2, x.ts) := by
  have : E.find? (fun x => x.txn == txn) = some x := by
    obtain ⟨hl, hg⟩ := List.getElem?_eq_some_iff.1 hx
    refine List.find?_eq_some_iff_getElem.2 ⟨hp, k, hl, hg, fun j hj => ?_⟩
    have := ha j E[j] hj (List.getElem?_eq_getElem _)
    simpa using this
  unfold finOf
  rw [this]
theorem find_split {α : Type} (p : α → Bool) (l : List α) : (∃ k x, l[k]? = some x ∧ p x = true ∧ ∀ (j : Nat) (y : α), j < k → l[j]? = some y → p y = false) ∨ (∀ (j : Nat) (y : α), l[j]? = some y → p y = false) := by
  cases h : l.findIdx? p with
  | none =>
    refine .inr fun j y hy => ?_
    have := List.findIdx?_eq_none_iff.1 h y (List.mem_of_getElem? hy)
    simpa using this
  | some k =>
    obtain ⟨hk, h1, h2⟩ := List.findIdx?_eq_some_iff_getElem.1 h
    refine .inl ⟨k, l[k], List.getElem?_eq_getElem _, h1, fun j y hj hy => ?_⟩
    have := h2 j hj
    rw [List.getElem?_eq_getElem (by omega)] at hy
    cases hy
    simpa using this

theorem state_c (x : Fin2) (txn : Int) (B : Nat) (W : World) (hk : W.cell? ⟨B, 0, none⟩ = some (.int .i64 txn)) :
    Calls Try.prog 70 #[.agg #[.int .i64 x.txn, .int .i64 x.ts], .pointer (some ⟨B, 0, none⟩)] W fun e w' => e = .returned (.bool (x.txn == txn)) ∧ Below W.heap.size W w' := by
  have hB : B < W.heap.size := World.block_lt_of_cell? W _ hk
  go_enter Try.func70, Try.ntmps70
  go_wp2
  go_ret
  exact ⟨rfl, (Below.refl _ _).alloc (Nat.le_refl _) _⟩

set_option maxHeartbeats 2000000 in
set_option maxRecDepth 100000 in
theorem state_any {base : Nat} {ok : Nat → Prop} {p bk bq : Nat} {ev : Value} {S : ShS} (txn : Int) (w : World) (h : ShAt w base ok p bk bq ev S) (hw : (Lit.int .i64 txn).wf = true) (hbig : S.E.length ≤ 9223372036854775807) :
    Calls Try.prog 33 #[.pointer (some ⟨p, 0, none⟩), .int .i64 txn] w fun e w' => e = .returned (.tuple #[.int .i64 (stateOf S txn).1, .int .i64 (stateOf S txn).2]) ∧ Below w.heap.size w w' := by
  have c1 := cell_blk (i := 1) (u := .map (some bq)) h.blk rfl
  have c2 := cell_blk (i := 2) (u := ev) h.blk rfl
  obtain ⟨r, v7, v8, ⟨A7, c7, e7, _, _, s7⟩, ⟨A8, c8, e8, _, _, s8⟩, hat, hlook⟩ := look_prep h txn hw true
  subst e7
  subst e8
  unfold recVal at hlook
  obtain ⟨A, c, eev, hle, hn, hE⟩ := own_rdv h.ends len_encFin
  have hlt := h.preps.lt
  subst eev
  have hz : ∀ o : Obj, (w.alloc o).heap[bq]? = w.heap[bq]? := fun o => (MapKept.heap_alloc w o).2 bq hlt
  have hz2 : ∀ o o' : Obj, ((w.alloc o).alloc o').heap[bq]? = w.heap[bq]? := fun o o' => ((MapKept.heap_alloc _ o').2 bq (by simp; omega)).trans (hz o)
  have hp1 : ∀ o : Obj, (w.alloc o).cell? ⟨p, 1, none⟩ = some (.map (some bq)) := fun o => cell_blk (alloc_old h.blk) rfl
  have hp2 : ∀ o o' : Obj, ((w.alloc o).alloc o').cell? ⟨p, 1, none⟩ = some (.map (some bq)) := fun o o' => cell_blk (alloc_old (alloc_old h.blk)) rfl
  have d1 := hp1 (.cells #[.int .i64 txn] 3 (0, 0))
  have d2 := hp2 (.cells #[.int .i64 txn] 3 (0, 0)) (.cells #[.int .i64 0, .int .i64 0, .int .i64 0, .int .i64 0, .string ⟨#[]⟩, .string ⟨#[]⟩, .bool false, .slice none 0 0, .slice none 0 0] 35 (0, 0))
  have el1 := hlook ((w.alloc (.cells #[.int .i64 txn] 3 (0, 0))).drew) (hz _)
  have el2 := hlook (((w.alloc (.cells #[.int .i64 txn] 3 (0, 0))).alloc (.cells #[.int .i64 0, .int .i64 0, .int .i64 0, .int .i64 0, .string ⟨#[]⟩, .string ⟨#[]⟩, .bool false, .slice none 0 0, .slice none 0 0] 35 (0, 0))).drew) (hz2 _ _)
  cases hh : Maps.has S.P (.int .i64 txn) with
  | true =>
    have HS := Lib.hid (show stateOf S txn = (1, 0) by unfold stateOf; rw [if_pos hh])
    rw [hh] at el1 el2
    simp only [if_true] at el1 el2
    clear hlook hE h hh hz hz2 hp1 hp2
    go_enter Try.func33, Try.ntmps33
    go_wp2
    go_region
    all_goals go_wp2
    all_goals go_ret2
    all_goals exact ⟨by rw [HS.out]; rfl, by repeat (with_reducible first | exact Below.refl _ _ | refine Below.setCell ?_ (by simp) _ | refine Below.drew ?_ | refine below_drewN ?_ _ | refine Below.alloc ?_ (by simp) _)⟩
  | false =>
    rw [hh] at el1 el2
    simp only [if_true] at el1 el2
    have hq1 : ∀ o : Obj, (w.alloc o).cell? ⟨p, 2, none⟩ = some (.slice A S.E.length c) := fun o => cell_blk (alloc_old h.blk) rfl
    have hq2 : ∀ o o' : Obj, ((w.alloc o).alloc o').cell? ⟨p, 2, none⟩ = some (.slice A S.E.length c) := fun o o' => cell_blk (alloc_old (alloc_old h.blk)) rfl
    have f1 := hq1 (.cells #[.int .i64 txn] 3 (0, 0))
    have f2 := hq2 (.cells #[.int .i64 txn] 3 (0, 0)) (.cells #[.int .i64 0, .int .i64 0, .int .i64 0, .int .i64 0, .string ⟨#[]⟩, .string ⟨#[]⟩, .bool false, .slice none 0 0, .slice none 0 0] 35 (0, 0))
    have hplt : p < w.heap.size := (Array.getElem?_eq_some_iff.1 h.blk).1
    have HS := Lib.hid (show stateOf S txn = finOf S.E txn by unfold stateOf; rw [if_neg (by rw [hh]; simp)])
    have hC := fun (W : World) (hW : Below w.heap.size w W) (hB : W.cell? ⟨w.heap.size, 0, none⟩ = some (.int .i64 txn)) =>
      indexFunc_fin (fun x => x.txn == txn) 70 #[.pointer (some ⟨w.heap.size, 0, none⟩)] (enters_of Try.func70 (by kernel_rfl) rfl) _ A c S.E W
        (fun W2 x hx hB2 => (state_c x txn _ W2 (cell_later hB2 hB)).mono fun _ _ ⟨a, b⟩ => ⟨a, below_thru hB2 b⟩) (hE.below hW) hbig
    have hb2 : w.cell? ⟨p, 2, none⟩ = some (.slice A S.E.length c) := c2
    have hW : Below w.heap.size w ((w.alloc (.cells #[.int .i64 txn] 3 (0, 0))).alloc (.cells #[.int .i64 r.kind, .int .i64 r.txn, .int .i64 r.ts, .int .i64 r.coord, .string r.key, .string r.text, .bool r.dead, .slice A7 r.keys.length c7, .slice A8 r.writes.length c8] 35 (0, 0))).drew := by repeat (with_reducible first | exact Below.refl _ _ | refine Below.setCell ?_ (by simp) _ | refine Below.drew ?_ | refine below_drewN ?_ _ | refine Below.alloc ?_ (by simp) _)
    rcases find_split (fun x : Fin2 => x.txn == txn) S.E with ⟨k, x, hx, hpx, hbefore⟩ | hno
    · have hk : k < S.E.length := (List.getElem?_eq_some_iff.1 hx).1
      have ei := idxOf_hit hx hpx hbefore
      have ef := finOf_hit hx hpx hbefore
      obtain ⟨g, off, eA, _, hg, hc⟩ := hE (by intro e; rw [e] at hk; exact absurd hk (by simp))
      subst eA
      have l1 := hc k x hx 1 _ rfl
      rw [ei] at hC
      clear hlook hE h hh hz hz2 hp1 hp2 hc hx hpx hbefore ei hq1
      go_enter Try.func33, Try.ntmps33
      go_wp2
      go_region
      all_goals
        go_wp2_with (go_at_call 69; refine (hC _ ?_ ?_).mono ?_)
        · exact hW
        · exact cell_blk (alloc_old (alloc_blk rfl)) rfl
        · rintro e wc ⟨rfl, hb⟩
          have hwc := Lib.hid (below_thru hW hb)
          have m1 := cell_later hwc.out l1
          have m2 := cell_later hwc.out c2
          clear hb hW hC hq2
          by_cases ht : x.ts = 0
          · rw [if_pos ht] at ef
            rw [ht] at m1
            have HS2 := Lib.hid (HS.out.trans ef)
            clear ht ef
            go_wp2
            go_ret2
            exact ⟨by rw [HS2.out]; rfl, hwc.out⟩
          · rw [if_neg ht] at ef
            have HS2 := Lib.hid (HS.out.trans ef)
            have dt : (x.ts == 0) = false := beq_eq_false_iff_ne.2 ht
            clear ht ef
            go_wp2
            go_region
            go_wp2
            go_ret2
            exact ⟨by rw [HS2.out]; rfl, by repeat (with_reducible first | exact hwc.out | refine Below.setCell ?_ (by simp) _ | refine Below.drew ?_ | refine below_drewN ?_ _ | refine Below.alloc ?_ (by simp) _)⟩
    · have ei := idxOf_miss hno
      have ef := finOf_miss hno
      have HS2 := Lib.hid (HS.out.trans ef)
      rw [ei] at hC
      clear hlook hE h hh hz hz2 hp1 hp2 hno ei hq1 ef
      go_enter Try.func33, Try.ntmps33
      go_wp2
      go_region
      all_goals
        go_wp2_with (go_at_call 69; refine (hC _ ?_ ?_).mono ?_)
        · exact hW
        · exact cell_blk (alloc_old (alloc_blk rfl)) rfl
        · rintro e wc ⟨rfl, hb⟩
          have hwc := Lib.hid (below_thru hW hb)
          clear hb hW hC hq2
          go_wp2
          go_ret2
          exact ⟨by rw [HS2.out]; rfl, hwc.out⟩
end Go.Proofs.Ytokfbikiicfafaa
