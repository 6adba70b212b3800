/- letter.Check at a letter of a prepared transaction's lists; record.listed, record.bare, record.Check. -/
import Derived.Test.YtokfbikiicfafaaSg
namespace Go.Proofs.Ytokfbikiicfafaa
open Go.RowKit Go.Maps
set_option linter.unusedVariables false

def okOr (b : Bool) (e : Int) : Int := if b then 0 else e
def listedB (ks : List ByteArray) (ws : List Wr) : Bool := (decide (ks.length ≤ 16) && risingB ks) && writesB ws

theorem address0 (w : World) : Calls Try.prog 126 #[.int .i64 0] w fun e w' => e = .returned (.bool true) ∧ w = w' := by
  go_enter Try.func126, Try.ntmps126
  go_wp2
  go_ret
  exact ⟨rfl, rfl⟩

set_option maxHeartbeats 4000000 in
set_option maxRecDepth 100000 in
theorem check_prep (ok : Nat → Prop) (A A2 : Option Addr) (c c2 : Nat) (ks : List ByteArray) (ws : List Wr) (w : World) (hz : RdSl 1 encS w ok A ks) (hz2 : RdSl 3 encWr w ok A2 ws) (hb1 : ks.length * 16 ≤ 140737488351232) (hb2 : ws.length * 40 ≤ 140737488351232) :
    Calls Try.prog 93 #[.agg #[.int .i64 3, .int .i64 0, .int .i64 0, .int .i64 1, .int .i64 0, .int .i64 0, .string ⟨#[]⟩, .slice A ks.length c, .slice A2 ws.length c2]] w
      fun e w' => e = .returned (.int .i64 (okOr (listedB ks ws) 70)) ∧ Below w.heap.size w w' := by
  have hR := fun (W : World) (hW : Below w.heap.size w W) => rising_any ok A c ks W (hz.below hW) (by omega)
  have hW := fun (W : World) (hW : Below w.heap.size w W) => writes_any ok A2 c2 ws W (hz2.below hW) hb2
  clear hz hz2
  cases hw : writesB ws <;> cases hr : risingB ks <;> (rw [hr] at hR; rw [hw] at hW; by_cases h16 : ks.length ≤ 16)
  all_goals
    first
      | have d1 : decide ((ks.length : Int) ≤ 16) = true := decide_eq_true (by omega)
      | have d1 : decide ((ks.length : Int) ≤ 16) = false := decide_eq_false (by omega)
    have hF : Hid (listedB ks ws = (decide (ks.length ≤ 16) && risingB ks && writesB ws)) := rfl
    have HR := Lib.hid hr
    have HW := Lib.hid hw
    have H16 := Lib.hid h16
    clear hr hw h16
  all_goals
    go_enter Try.func93, Try.ntmps93
    go_wp2_with (first | (go_at_call 126; refine (address0 _).mono ?_; rintro e w' ⟨rfl, rfl⟩))
    go_quiet (fail)
    have hx0 := alloc_blk (w := w) (o := .cells #[.int .i64 3, .int .i64 0, .int .i64 0, .int .i64 1, .int .i64 0, .int .i64 0, .string ⟨#[]⟩, .slice A ks.length c, .slice A2 ws.length c2] 46) rfl
    have hw0 := Lib.hid (below_drewN ((Below.refl w.heap.size w).alloc (Nat.le_refl _) (.cells #[.int .i64 3, .int .i64 0, .int .i64 0, .int .i64 1, .int .i64 0, .int .i64 0, .string ⟨#[]⟩, .slice A ks.length c, .slice A2 ws.length c2] 46)) nq)
    go_wp2_with (first | (go_at_call 127; refine (hR _ hw0.out).mono ?_; rintro e w1 ⟨rfl, hb1'⟩; have hw1 := Lib.hid (hw0.out.trans (hb1'.mono hw0.out.size)); have hx1 := cellsLater hb1' hx0; have k8 := cell_blk (i := 8) hx1 rfl; have k5 := cell_blk (i := 5) hx1 rfl) | (go_at_call 128; first | (refine (hW _ hw1.out).mono ?_; rintro e w2 ⟨rfl, hb2'⟩; have hw2 := Lib.hid (hw1.out.trans (hb2'.mono hw1.out.size)); have hx2 := cellsLater hb2' hx1; have k5 := cell_blk (i := 5) hx2 rfl) | (refine (hW _ hw0.out).mono ?_; rintro e w2 ⟨rfl, hb2'⟩; have hw2 := Lib.hid (hw0.out.trans (hb2'.mono hw0.out.size)); have hx2 := cellsLater hb2' hx0; have k5 := cell_blk (i := 5) hx2 rfl)))
    go_ret
    exact ⟨by rw [hF.out, HR.out, HW.out]; first | (rw [decide_eq_true H16.out]; rfl) | (rw [decide_eq_false H16.out]; rfl), hw2.out⟩
end Go.Proofs.Ytokfbikiicfafaa
