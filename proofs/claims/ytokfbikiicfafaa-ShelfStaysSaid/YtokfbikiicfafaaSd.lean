/- slices.Clone at the seat's element types: the same elements in memory of the call's own. -/
import Derived.Test.YtokfbikiicfafaaSc
namespace Go.Proofs.Ytokfbikiicfafaa
open Go.RowKit Go.Maps
set_option linter.unusedVariables false

theorem len_encVer (x : Ver) : (encVer x).length = 3 := rfl
theorem one_encVer (x : Ver) : ∀ u ∈ encVer x, u.oneCell' = true := by intro u hu; simp [encVer] at hu; rcases hu with rfl | rfl | rfl <;> rfl
theorem info_ver : (Try.prog.info? 29).map (fun i => (i.zero, i.size, i.bytes)) = some (some (.agg #[.int .i64 0, .string ⟨#[]⟩, .bool false]), 3, 32) := by kernel_rfl
set_option maxHeartbeats 1000000 in
theorem clone_ver (ok : Nat → Prop) (A : Option Addr) (c : Nat) (xs : List Ver) (w : World) (hz : RdSl 3 encVer w ok A xs) (hbig : xs.length * 32 ≤ 140737488355328) :
    Calls Try.prog 114 #[.slice A xs.length c] w fun e w' => ∃ v, e = .returned v ∧ w'.ownsRow w.heap.size 29 3 v xs.length (xs.flatMap encVer) ∧ Below w.heap.size w w' := by
  have q22 : ∀ (w : World) (a : Option Addr) (n c n' c' : Nat), (binOp .eql 81 (.slice a n c) (.slice none n' c')).run Try.prog w = .ok (.bool a.isNone) w := fun w a n c n' c' => Lib.run_eql_slice_nil w _ _ a n c n' c' Try.underlying81
  obtain ⟨i0, hi, hz0, hz1, hz2⟩ := info_parts info_ver
  cases A with
  | none =>
    have hn : xs = [] := by
      by_cases e : xs = []
      · exact e
      · obtain ⟨b, off, e1, _⟩ := hz e
        cases e1
    subst hn
    clear hz
    go_enter Try.func114, Try.ntmps114
    go_wp2
    go_ret
    exact ⟨_, rfl, World.ownsRow_nil _ _ _ _, Below.refl _ _⟩
  | some ad =>
    have HF := Lib.hid (hz.flat len_encVer (by decide) rfl)
    clear hz
    go_enter Try.func114, Try.ntmps114
    go_wp2_with (at_builtin; refine wpList_append_own _ rfl _ _ 81 rfl w.heap.size 29 i0 (.agg #[.int .i64 0, .string ⟨#[]⟩, .bool false]) 3 32 Try.underlying81 hi hz0 hz1 hz2 rfl (by decide) _ _ _ rfl (World.ownsRow_made w #[] 0 (Nat.le_refl _) (Nat.zero_le _) (by simp)) ad xs.length c (xs.flatMap encVer) rfl ?qc1 ?qc2 ?qc3 ?qc4 ?qc5 ?qc6 ?_)
    case qc1 => exact flatMap_len len_encVer xs
    case qc2 =>
      intro j u hj
      exact Lib.cell?_alloc_some _ (HF.out j u hj)
    case qc3 =>
      intro u hu
      obtain ⟨x, _, hx⟩ := List.mem_flatMap.1 hu
      exact one_encVer x u hx
    case qc4 => unfold maxLen; omega
    case qc5 => omega
    case qc6 => simp
    intro v' w1 hown hgrow hnil
    go_wp2
    go_ret
    refine ⟨v', rfl, by simpa using hown, ?_⟩
    exact ((Below.refl _ w).alloc (Nat.le_refl _) _).grown hgrow (by simp) (by intro k hk; simp [Value.ownBlock] at hk; omega)

theorem len_encWr (x : Wr) : (encWr x).length = 3 := rfl
theorem one_encWr (x : Wr) : ∀ u ∈ encWr x, u.oneCell' = true := by intro u hu; simp [encWr] at hu; rcases hu with rfl | rfl | rfl <;> rfl
theorem info_wr : (Try.prog.info? 56).map (fun i => (i.zero, i.size, i.bytes)) = some (some (.agg #[.string ⟨#[]⟩, .string ⟨#[]⟩, .bool false]), 3, 40) := by kernel_rfl
set_option maxHeartbeats 1000000 in
theorem clone_wr (ok : Nat → Prop) (A : Option Addr) (c : Nat) (xs : List Wr) (w : World) (hz : RdSl 3 encWr w ok A xs) (hbig : xs.length * 40 ≤ 140737488355328) :
    Calls Try.prog 100 #[.slice A xs.length c] w fun e w' => ∃ v, e = .returned v ∧ w'.ownsRow w.heap.size 56 3 v xs.length (xs.flatMap encWr) ∧ Below w.heap.size w w' := by
  have q22 : ∀ (w : World) (a : Option Addr) (n c n' c' : Nat), (binOp .eql 33 (.slice a n c) (.slice none n' c')).run Try.prog w = .ok (.bool a.isNone) w := fun w a n c n' c' => Lib.run_eql_slice_nil w _ _ a n c n' c' Try.underlying33
  obtain ⟨i0, hi, hz0, hz1, hz2⟩ := info_parts info_wr
  cases A with
  | none =>
    have hn : xs = [] := by
      by_cases e : xs = []
      · exact e
      · obtain ⟨b, off, e1, _⟩ := hz e
        cases e1
    subst hn
    clear hz
    go_enter Try.func100, Try.ntmps100
    go_wp2
    go_ret
    exact ⟨_, rfl, World.ownsRow_nil _ _ _ _, Below.refl _ _⟩
  | some ad =>
    have HF := Lib.hid (hz.flat len_encWr (by decide) rfl)
    clear hz
    go_enter Try.func100, Try.ntmps100
    go_wp2_with (at_builtin; refine wpList_append_own _ rfl _ _ 33 rfl w.heap.size 56 i0 (.agg #[.string ⟨#[]⟩, .string ⟨#[]⟩, .bool false]) 3 40 Try.underlying33 hi hz0 hz1 hz2 rfl (by decide) _ _ _ rfl (World.ownsRow_made w #[] 0 (Nat.le_refl _) (Nat.zero_le _) (by simp)) ad xs.length c (xs.flatMap encWr) rfl ?qc1 ?qc2 ?qc3 ?qc4 ?qc5 ?qc6 ?_)
    case qc1 => exact flatMap_len len_encWr xs
    case qc2 =>
      intro j u hj
      exact Lib.cell?_alloc_some _ (HF.out j u hj)
    case qc3 =>
      intro u hu
      obtain ⟨x, _, hx⟩ := List.mem_flatMap.1 hu
      exact one_encWr x u hx
    case qc4 => unfold maxLen; omega
    case qc5 => omega
    case qc6 => simp
    intro v' w1 hown hgrow hnil
    go_wp2
    go_ret
    refine ⟨v', rfl, by simpa using hown, ?_⟩
    exact ((Below.refl _ w).alloc (Nat.le_refl _) _).grown hgrow (by simp) (by intro k hk; simp [Value.ownBlock] at hk; omega)

theorem len_encS (x : ByteArray) : (encS x).length = 1 := rfl
theorem one_encS (x : ByteArray) : ∀ u ∈ encS x, u.oneCell' = true := by intro u hu; simp [encS] at hu; subst hu; rfl
theorem info_str : (Try.prog.info? 9).map (fun i => (i.zero, i.size, i.bytes)) = some (some (.string ⟨#[]⟩), 1, 16) := by kernel_rfl
set_option maxHeartbeats 1000000 in
theorem clone_str (ok : Nat → Prop) (A : Option Addr) (c : Nat) (xs : List ByteArray) (w : World) (hz : RdSl 1 encS w ok A xs) (hbig : xs.length * 16 ≤ 140737488355328) :
    Calls Try.prog 99 #[.slice A xs.length c] w fun e w' => ∃ v, e = .returned v ∧ w'.ownsRow w.heap.size 9 1 v xs.length (xs.flatMap encS) ∧ Below w.heap.size w w' := by
  have q22 : ∀ (w : World) (a : Option Addr) (n c n' c' : Nat), (binOp .eql 32 (.slice a n c) (.slice none n' c')).run Try.prog w = .ok (.bool a.isNone) w := fun w a n c n' c' => Lib.run_eql_slice_nil w _ _ a n c n' c' Try.underlying32
  obtain ⟨i0, hi, hz0, hz1, hz2⟩ := info_parts info_str
  cases A with
  | none =>
    have hn : xs = [] := by
      by_cases e : xs = []
      · exact e
      · obtain ⟨b, off, e1, _⟩ := hz e
        cases e1
    subst hn
    clear hz
    go_enter Try.func99, Try.ntmps99
    go_wp2
    go_ret
    exact ⟨_, rfl, World.ownsRow_nil _ _ _ _, Below.refl _ _⟩
  | some ad =>
    have HF := Lib.hid (hz.flat len_encS (by decide) rfl)
    clear hz
    go_enter Try.func99, Try.ntmps99
    go_wp2_with (at_builtin; refine wpList_append_own _ rfl _ _ 32 rfl w.heap.size 9 i0 (.string ⟨#[]⟩) 1 16 Try.underlying32 hi hz0 hz1 hz2 rfl (by decide) _ _ _ rfl (World.ownsRow_made w #[] 0 (Nat.le_refl _) (Nat.zero_le _) (by simp)) ad xs.length c (xs.flatMap encS) rfl ?qc1 ?qc2 ?qc3 ?qc4 ?qc5 ?qc6 ?_)
    case qc1 => exact flatMap_len len_encS xs
    case qc2 =>
      intro j u hj
      exact Lib.cell?_alloc_some _ (HF.out j u hj)
    case qc3 =>
      intro u hu
      obtain ⟨x, _, hx⟩ := List.mem_flatMap.1 hu
      exact one_encS x u hx
    case qc4 => unfold maxLen; omega
    case qc5 => omega
    case qc6 => simp
    intro v' w1 hown hgrow hnil
    go_wp2
    go_ret
    refine ⟨v', rfl, by simpa using hown, ?_⟩
    exact ((Below.refl _ w).alloc (Nat.le_refl _) _).grown hgrow (by simp) (by intro k hk; simp [Value.ownBlock] at hk; omega)

theorem len_encFin (x : Fin2) : (encFin x).length = 2 := rfl
theorem one_encFin (x : Fin2) : ∀ u ∈ encFin x, u.oneCell' = true := by intro u hu; simp [encFin] at hu; rcases hu with rfl | rfl <;> rfl
theorem info_fin : (Try.prog.info? 96).map (fun i => (i.zero, i.size, i.bytes)) = some (some (.agg #[.int .i64 0, .int .i64 0]), 2, 16) := by kernel_rfl
set_option maxHeartbeats 1000000 in
theorem clone_fin (ok : Nat → Prop) (A : Option Addr) (c : Nat) (xs : List Fin2) (w : World) (hz : RdSl 2 encFin w ok A xs) (hbig : xs.length * 16 ≤ 140737488355328) :
    Calls Try.prog 46 #[.slice A xs.length c] w fun e w' => ∃ v, e = .returned v ∧ w'.ownsRow w.heap.size 96 2 v xs.length (xs.flatMap encFin) ∧ Below w.heap.size w w' := by
  have q22 : ∀ (w : World) (a : Option Addr) (n c n' c' : Nat), (binOp .eql 76 (.slice a n c) (.slice none n' c')).run Try.prog w = .ok (.bool a.isNone) w := fun w a n c n' c' => Lib.run_eql_slice_nil w _ _ a n c n' c' Try.underlying76
  obtain ⟨i0, hi, hz0, hz1, hz2⟩ := info_parts info_fin
  cases A with
  | none =>
    have hn : xs = [] := by
      by_cases e : xs = []
      · exact e
      · obtain ⟨b, off, e1, _⟩ := hz e
        cases e1
    subst hn
    clear hz
    go_enter Try.func46, Try.ntmps46
    go_wp2
    go_ret
    exact ⟨_, rfl, World.ownsRow_nil _ _ _ _, Below.refl _ _⟩
  | some ad =>
    have HF := Lib.hid (hz.flat len_encFin (by decide) rfl)
    clear hz
    go_enter Try.func46, Try.ntmps46
    go_wp2_with (at_builtin; refine wpList_append_own _ rfl _ _ 76 rfl w.heap.size 96 i0 (.agg #[.int .i64 0, .int .i64 0]) 2 16 Try.underlying76 hi hz0 hz1 hz2 rfl (by decide) _ _ _ rfl (World.ownsRow_made w #[] 0 (Nat.le_refl _) (Nat.zero_le _) (by simp)) ad xs.length c (xs.flatMap encFin) rfl ?qc1 ?qc2 ?qc3 ?qc4 ?qc5 ?qc6 ?_)
    case qc1 => exact flatMap_len len_encFin xs
    case qc2 =>
      intro j u hj
      exact Lib.cell?_alloc_some _ (HF.out j u hj)
    case qc3 =>
      intro u hu
      obtain ⟨x, _, hx⟩ := List.mem_flatMap.1 hu
      exact one_encFin x u hx
    case qc4 => unfold maxLen; omega
    case qc5 => omega
    case qc6 => simp
    intro v' w1 hown hgrow hnil
    go_wp2
    go_ret
    refine ⟨v', rfl, by simpa using hown, ?_⟩
    exact ((Below.refl _ w).alloc (Nat.le_refl _) _).grown hgrow (by simp) (by intro k hk; simp [Value.ownBlock] at hk; omega)

end Go.Proofs.Ytokfbikiicfafaa
