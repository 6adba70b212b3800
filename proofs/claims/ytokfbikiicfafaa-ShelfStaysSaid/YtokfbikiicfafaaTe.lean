/- corncriblaw12.works: the chapter's example. -/
import Derived.Test.YtokfbikiicfafaaTd
namespace Go.Proofs.Ytokfbikiicfafaa
open Go.RowKit Go.Maps
set_option linter.unusedVariables false

def exK : ByteArray := ⟨#[107]⟩
def exX : ByteArray := ⟨#[120]⟩
def exPrep : Rec := ⟨1, 5, 0, 0, ⟨#[]⟩, ⟨#[]⟩, false, [], [⟨exK, exX, false⟩]⟩
def exDo : Rec := ⟨2, 5, 9, 0, ⟨#[]⟩, ⟨#[]⟩, false, [], []⟩
def exS1 : ShS := applyS ShS.none exPrep
def exS2 : ShS := applyS exS1 exDo
theorem exS1_ok : StOk exS1 := StOk.none.apply _
theorem exS2_ok : StOk exS2 := exS1_ok.apply _
theorem ex_a : applyCode ShS.none exPrep = 0 := by decide +kernel
theorem ex_b : readOf exS1 exK 9 = (3, noVer) := by kernel_rfl
theorem ex_c : applyCode exS1 exDo = 0 := by decide +kernel
theorem ex_d : readOf exS2 exK 9 = (1, ⟨9, exX, false⟩) := by kernel_rfl
theorem ex_e : readOf exS2 exK 8 = (0, noVer) := by kernel_rfl
theorem ex_f : stateOf exS2 5 = (2, 9) := by decide +kernel

theorem below_of_turned {w wr w' : World} {base : Nat} {ok : Nat → Prop} {p bk bq : Nat} {ev : Value} {S S2 : ShS} (hb : Below w.heap.size w wr) (h : ShAt wr base ok p bk bq ev S) (hbase : w.heap.size ≤ base) (ht : Turned wr w' base ok p bk bq ev S2) : Below w.heap.size w w' := by
  obtain ⟨ok', ev', sh, f, _⟩ := ht
  exact hb.trans (f.below hb.size (fun i hm => Nat.le_trans hbase (h.mut_ge hm).1))

set_option maxHeartbeats 8000000 in
set_option maxRecDepth 100000 in
theorem works_any (w : World) : Calls Try.prog 11 #[] w fun e w' => e = .returned (.bool true) ∧ Below w.heap.size w w' := by
  have hNew := new_any (base := w.heap.size) (fun _ => False) w (Nat.le_refl _) (fun _ h => h.elim)
  have hA1 : ∀ (W : World) (B : Nat) (ok : Nat → Prop) (p bk bq : Nat) (ev : Value), ShAt W w.heap.size ok p bk bq ev ShS.none → w.heap.size ≤ W.heap.size → W.heap[B]? = some (.cells #[.string ⟨#[107]⟩, .string ⟨#[120]⟩, .bool false] 56 (0, 0)) →
      Calls Try.prog 13 #[.pointer (some ⟨p, 0, none⟩), .agg #[.int .i64 1, .int .i64 5, .int .i64 0, .int .i64 0, .string ⟨#[]⟩, .string ⟨#[]⟩, .bool false, .slice none 0 0, .slice (some ⟨B, 0, none⟩) 1 1]] W fun e w' => e = .returned (.int .i64 0) ∧ Turned W w' w.heap.size ok p bk bq ev exS1 := fun W B ok p bk bq ev h hs hB => by
    have := apply_any (okA := fun _ => True) none (some ⟨B, 0, none⟩) 0 1 exPrep W h StOk.none (RdSl.nil _ _ _ _ _) (rd_one (fun _ => True) trivial hB) (by simp [exPrep]) (by simp [exPrep]) hs
    rw [ex_a] at this
    exact this
  have hR1 : ∀ (W : World) (ok : Nat → Prop) (p bk bq : Nat) (ev : Value), ShAt W w.heap.size ok p bk bq ev exS1 →
      Calls Try.prog 12 #[.pointer (some ⟨p, 0, none⟩), .string ⟨#[107]⟩, .int .i64 9] W fun e w' => e = .returned (.tuple #[.int .i64 3, .agg #[.int .i64 0, .string ⟨#[]⟩, .bool false]]) ∧ Below W.heap.size W w' := fun W ok p bk bq ev h => by
    have := read_any exK 9 W h (by decide) (exS1_ok.kc.chain _) exS1_ok.small
    rw [ex_b] at this
    exact this
  have hA2 : ∀ (W : World) (ok : Nat → Prop) (p bk bq : Nat) (ev : Value), ShAt W w.heap.size ok p bk bq ev exS1 → w.heap.size ≤ W.heap.size →
      Calls Try.prog 13 #[.pointer (some ⟨p, 0, none⟩), .agg #[.int .i64 2, .int .i64 5, .int .i64 9, .int .i64 0, .string ⟨#[]⟩, .string ⟨#[]⟩, .bool false, .slice none 0 0, .slice none 0 0]] W fun e w' => e = .returned (.int .i64 0) ∧ Turned W w' w.heap.size ok p bk bq ev exS2 := fun W ok p bk bq ev h hs => by
    have := apply_any (okA := fun _ => True) none none 0 0 exDo W h exS1_ok (RdSl.nil _ _ _ _ _) (RdSl.nil _ _ _ _ _) (by simp [exDo]) (by simp [exDo]) hs
    rw [ex_c] at this
    exact this
  have hR2 : ∀ (W : World) (ok : Nat → Prop) (p bk bq : Nat) (ev : Value), ShAt W w.heap.size ok p bk bq ev exS2 →
      Calls Try.prog 12 #[.pointer (some ⟨p, 0, none⟩), .string ⟨#[107]⟩, .int .i64 9] W fun e w' => e = .returned (.tuple #[.int .i64 1, .agg #[.int .i64 9, .string ⟨#[120]⟩, .bool false]]) ∧ Below W.heap.size W w' := fun W ok p bk bq ev h => by
    have := read_any exK 9 W h (by decide) (exS2_ok.kc.chain _) exS2_ok.small
    rw [ex_d] at this
    exact this
  have hR3 : ∀ (W : World) (ok : Nat → Prop) (p bk bq : Nat) (ev : Value), ShAt W w.heap.size ok p bk bq ev exS2 →
      Calls Try.prog 12 #[.pointer (some ⟨p, 0, none⟩), .string ⟨#[107]⟩, .int .i64 8] W fun e w' => e = .returned (.tuple #[.int .i64 0, .agg #[.int .i64 0, .string ⟨#[]⟩, .bool false]]) ∧ Below W.heap.size W w' := fun W ok p bk bq ev h => by
    have := read_any exK 8 W h (by decide) (exS2_ok.kc.chain _) exS2_ok.small
    rw [ex_e] at this
    exact this
  have hSt : ∀ (W : World) (ok : Nat → Prop) (p bk bq : Nat) (ev : Value), ShAt W w.heap.size ok p bk bq ev exS2 →
      Calls Try.prog 33 #[.pointer (some ⟨p, 0, none⟩), .int .i64 5] W fun e w' => e = .returned (.tuple #[.int .i64 2, .int .i64 9]) ∧ Below W.heap.size W w' := fun W ok p bk bq ev h => by
    have := state_any 5 W h (by decide) (by have := exS2_ok.es; omega)
    rw [ex_f] at this
    exact this
  go_enter Try.func11, Try.ntmps11
  go_wp2_with (go_at_call 32; refine hNew.mono ?_; rintro e w1 ⟨rfl, sh1, hb1⟩; have SH1 := Lib.hid sh1; have HB1 := Lib.hid hb1; clear sh1 hb1)
  refine (hA1 _ _ _ _ _ _ _ (SH1.out.below ((Below.refl _ _).alloc (Nat.le_refl _) _)) (HB1.out.alloc HB1.out.size _).size (alloc_blk rfl)).mono ?_
  rintro e w2 ⟨rfl, hT⟩
  have HB2 := Lib.hid (below_of_turned (HB1.out.alloc HB1.out.size _) (SH1.out.below ((Below.refl _ _).alloc (Nat.le_refl _) _)) (Nat.le_refl _) hT)
  obtain ⟨ok2, ev2, sh2, _⟩ := hT
  have SH2 := Lib.hid sh2
  clear sh2
  go_wp2_with fail
  refine (hR1 _ _ _ _ _ _ SH2.out).mono ?_
  rintro e w3 ⟨rfl, hb3⟩
  have HB3 := Lib.hid (below_thru HB2.out hb3)
  have SH3 := Lib.hid (SH2.out.below hb3)
  clear hb3
  go_wp2_with fail
  refine (hA2 _ _ _ _ _ _ (SH3.out.below ((Below.refl _ _).alloc (Nat.le_refl _) _)) (HB3.out.alloc HB3.out.size _).size).mono ?_
  rintro e w4 ⟨rfl, hT⟩
  have HB4 := Lib.hid (below_of_turned (HB3.out.alloc HB3.out.size _) (SH3.out.below ((Below.refl _ _).alloc (Nat.le_refl _) _)) (Nat.le_refl _) hT)
  obtain ⟨ok4, ev4, sh4, _⟩ := hT
  have SH4 := Lib.hid sh4
  clear sh4
  go_wp2_with fail
  refine (hR2 _ _ _ _ _ _ SH4.out).mono ?_
  rintro e w5 ⟨rfl, hb5⟩
  have HB5 := Lib.hid (below_thru HB4.out hb5)
  have SH5 := Lib.hid (SH4.out.below hb5)
  clear hb5
  go_wp2_with fail
  refine (hR3 _ _ _ _ _ _ (SH5.out.below ((Below.refl _ _).alloc (Nat.le_refl _) _))).mono ?_
  rintro e w6 ⟨rfl, hb6⟩
  have y6 := cellsLater hb6 (alloc_blk rfl)
  have Y6 := Lib.hid y6
  have HB6 := Lib.hid (below_thru (HB5.out.alloc HB5.out.size _) hb6)
  have SH6 := Lib.hid ((SH5.out.below ((Below.refl _ _).alloc (Nat.le_refl _) _)).below hb6)
  clear hb6 y6
  go_wp2_with fail
  refine (hSt _ _ _ _ _ _ (SH6.out.below ((Below.refl _ _).alloc (Nat.le_refl _) _))).mono ?_
  rintro e w7 ⟨rfl, hb7⟩
  have y7 := cell_blk (i := 1) (cellsLater hb7 (alloc_old Y6.out)) rfl
  have HB7 := Lib.hid (below_thru (HB6.out.alloc HB6.out.size _) hb7)
  clear hb7
  go_wp2_with fail
  go_ret
  exact ⟨rfl, HB7.out⟩
end Go.Proofs.Ytokfbikiicfafaa
