/- shelf.prepare. -/
import Derived.Test.YtokfbikiicfafaaSq
namespace Go.Proofs.Ytokfbikiicfafaa
open Go.RowKit Go.Maps
set_option linter.unusedVariables false

def SmallP (P : DataW Rec) : Prop := ∀ kl r, (∀ z, P.atKey kl z = .held r) → r.keys.length ≤ 16 ∧ r.writes.length ≤ 16

theorem prepare1_any {base : Nat} {ok : Nat → Prop} {p bk bq : Nat} {ev : Value} {S : ShS} (key : ByteArray) (B : Nat) (w : World) (h : ShAt w base ok p bk bq ev S) (hsm : SmallP S.P) (hB : w.cell? ⟨B, 0, none⟩ = some (.pointer (some ⟨p, 0, none⟩))) :
    Calls Try.prog 77 #[.string key, .pointer (some ⟨B, 0, none⟩)] w fun e w' => e = .returned (.bool (heldIn S.P (hit key false))) ∧ Below w.heap.size w w' := by
  have hH := held_any key false w h hsm
  clear h
  go_enter Try.func77, Try.ntmps77
  go_wp2_with (go_at_call 31; refine hH.mono ?_; rintro e w1 ⟨rfl, hb1⟩)
  go_ret
  exact ⟨rfl, hb1⟩

theorem prepare2_any {base : Nat} {ok : Nat → Prop} {p bk bq : Nat} {ev : Value} {S : ShS} (x : Wr) (B : Nat) (w : World) (h : ShAt w base ok p bk bq ev S) (hsm : SmallP S.P) (hB : w.cell? ⟨B, 0, none⟩ = some (.pointer (some ⟨p, 0, none⟩))) :
    Calls Try.prog 79 #[.agg #[.string x.key, .string x.sh, .bool x.dead], .pointer (some ⟨B, 0, none⟩)] w fun e w' => e = .returned (.bool (heldIn S.P (hit x.key true))) ∧ Below w.heap.size w w' := by
  have hBl : B < w.heap.size := World.block_lt_of_cell? w _ hB
  have hH := fun (W : World) (hW : Below w.heap.size w W) => held_any x.key true W (h.below hW) hsm
  clear h
  go_enter Try.func79, Try.ntmps79
  go_wp2_with (go_at_call 31; refine (hH _ ?_).mono ?_; (exact (Below.refl _ _).alloc (Nat.le_refl _) _); rintro e w1 ⟨rfl, hb1⟩; have hw1 := Lib.hid (below_thru ((Below.refl _ _).alloc (Nat.le_refl _) _) hb1))
  go_ret
  exact ⟨rfl, hw1.out⟩

def lockedB (S : ShS) (r : Rec) : Bool := r.keys.any (fun k => heldIn S.P (hit k false)) || r.writes.any (fun x => heldIn S.P (hit x.key true))
def prepCode (S : ShS) (r : Rec) : Int := if 0 < (stateOf S r.txn).1 then 6 else if lockedB S r = true then 180 else if 1024 ≤ Maps.size S.P then 2 else 0
def prepS (S : ShS) (r : Rec) : ShS := if prepCode S r = 0 then { S with P := S.P.put (.int .i64 r.txn) (.held r) } else S

set_option maxHeartbeats 8000000 in
set_option maxRecDepth 100000 in
theorem prepare_any {base : Nat} {ok okA : Nat → Prop} {p bk bq : Nat} {ev : Value} {S : ShS} (A7 A8 : Option Addr) (c7 c8 : Nat) (r : Rec) (w : World) (h : ShAt w base ok p bk bq ev S) (hsm : SmallP S.P) (hwf : (Lit.int .i64 r.txn).wf = true) (hbig : S.E.length ≤ 9223372036854775807)
    (s7 : RdSl 1 encS w okA A7 r.keys) (s8 : RdSl 3 encWr w okA A8 r.writes) (hk : r.keys.length ≤ 16) (hw : r.writes.length ≤ 16) :
    Calls Try.prog 36 #[.pointer (some ⟨p, 0, none⟩), .agg #[.int .i64 r.kind, .int .i64 r.txn, .int .i64 r.ts, .int .i64 r.coord, .string r.key, .string r.text, .bool r.dead, .slice A7 r.keys.length c7, .slice A8 r.writes.length c8]] w fun e w' => e = .returned (.int .i64 (prepCode S r)) ∧ Turned w w' base ok p bk bq ev (prepS S r) := by
  have hSt := fun (W : World) (hW : Below w.heap.size w W) => state_any r.txn W (h.below hW) hwf hbig
  have hB : Below w.heap.size w ((w.alloc (.cells #[.pointer (some ⟨p, 0, none⟩)] 25 (0, 0))).alloc (.cells #[.int .i64 r.kind, .int .i64 r.txn, .int .i64 r.ts, .int .i64 r.coord, .string r.key, .string r.text, .bool r.dead, .slice A7 r.keys.length c7, .slice A8 r.writes.length c8] 35 (0, 0))) := by repeat (with_reducible first | exact Below.refl _ _ | refine Below.setCell ?_ (by simp) _ | refine Below.drew ?_ | refine below_drewN ?_ _ | refine Below.alloc ?_ (by simp) _)
  have x1 : ((w.alloc (.cells #[.pointer (some ⟨p, 0, none⟩)] 25 (0, 0))).alloc (.cells #[.int .i64 r.kind, .int .i64 r.txn, .int .i64 r.ts, .int .i64 r.coord, .string r.key, .string r.text, .bool r.dead, .slice A7 r.keys.length c7, .slice A8 r.writes.length c8] 35 (0, 0))).heap[w.heap.size]? = some (.cells #[.pointer (some ⟨p, 0, none⟩)] 25 (0, 0)) := alloc_old (alloc_blk rfl)
  have x2 : ((w.alloc (.cells #[.pointer (some ⟨p, 0, none⟩)] 25 (0, 0))).alloc (.cells #[.int .i64 r.kind, .int .i64 r.txn, .int .i64 r.ts, .int .i64 r.coord, .string r.key, .string r.text, .bool r.dead, .slice A7 r.keys.length c7, .slice A8 r.writes.length c8] 35 (0, 0))).heap[w.heap.size + 1]? = some (.cells #[.int .i64 r.kind, .int .i64 r.txn, .int .i64 r.ts, .int .i64 r.coord, .string r.key, .string r.text, .bool r.dead, .slice A7 r.keys.length c7, .slice A8 r.writes.length c8] 35 (0, 0)) := alloc_blk (by simp)
  by_cases h1 : 0 < (stateOf S r.txn).1
  · have HS := Lib.hid (show prepCode S r = 6 by unfold prepCode; rw [if_pos h1])
    have HT := Lib.hid (fun (W : World) (hb : Below w.heap.size w W) => (Turned.refl h hb : Turned w W base ok p bk bq ev S))
    have HU := Lib.hid (show prepS S r = S by unfold prepS; rw [HS.out, if_neg (by decide)])
    have d1 : decide ((stateOf S r.txn).1 > 0) = true := decide_eq_true h1
    clear h s7 s8 hsm
    go_enter Try.func36, Try.ntmps36
    go_wp2_with (go_at_call 33; refine (hSt _ hB).mono ?_; rintro e w1 ⟨rfl, hb1⟩; have hw1 := Lib.hid (below_thru hB hb1); have y1 := cellsLater hb1 x1; have y2 := cellsLater hb1 x2)
    go_ret
    exact ⟨by rw [HS.out]; rfl, by rw [HU.out]; exact HT.out _ hw1.out⟩
  · have d1 : decide ((stateOf S r.txn).1 > 0) = false := decide_eq_false h1
    have hCK := fun (W : World) (hW : Below w.heap.size w W) (hc : W.cell? ⟨w.heap.size, 0, none⟩ = some (.pointer (some ⟨p, 0, none⟩))) =>
      containsFunc_str (fun k => heldIn S.P (hit k false)) 77 #[.pointer (some ⟨w.heap.size, 0, none⟩)] (enters_of Try.func77 (by kernel_rfl) rfl) okA A7 c7 r.keys W
        (fun W2 x hx hB2 => (prepare1_any x _ W2 (h.below (below_thru hW hB2)) hsm (cell_later hB2 hc)).mono fun _ _ ⟨a, b⟩ => ⟨a, below_thru hB2 b⟩) (s7.below hW) (by omega)
    have hCW := fun (W : World) (hW : Below w.heap.size w W) (hc : W.cell? ⟨w.heap.size, 0, none⟩ = some (.pointer (some ⟨p, 0, none⟩))) =>
      containsFunc_wr (fun x => heldIn S.P (hit x.key true)) 79 #[.pointer (some ⟨w.heap.size, 0, none⟩)] (enters_of Try.func79 (by kernel_rfl) rfl) okA A8 c8 r.writes W
        (fun W2 x hx hB2 => (prepare2_any x _ W2 (h.below (below_thru hW hB2)) hsm (cell_later hB2 hc)).mono fun _ _ ⟨a, b⟩ => ⟨a, below_thru hB2 b⟩) (s8.below hW) (by omega)
    cases h2 : r.keys.any (fun k => heldIn S.P (hit k false)) with
    | true =>
      have HS := Lib.hid (show prepCode S r = 180 by unfold prepCode lockedB; rw [if_neg h1, h2]; rfl)
      have HT := Lib.hid (fun (W : World) (hb : Below w.heap.size w W) => (Turned.refl h hb : Turned w W base ok p bk bq ev S))
      have HU := Lib.hid (show prepS S r = S by unfold prepS; rw [HS.out, if_neg (by decide)])
      rw [h2] at hCK
      clear h s7 s8 hsm h2 hCW
      go_enter Try.func36, Try.ntmps36
      go_wp2_with (first | (go_at_call 33; refine (hSt _ hB).mono ?_; rintro e w1 ⟨rfl, hb1⟩; have hw1 := Lib.hid (below_thru hB hb1); have y1 := cellsLater hb1 x1; have y2 := cellsLater hb1 x2; have k1 := cell_blk (i := 0) y1 rfl; have k7 := cell_blk (i := 7) y2 rfl) | (go_at_call 76; refine (hCK _ hw1.out k1).mono ?_; rintro e w2 ⟨rfl, hb2⟩; have hw2 := Lib.hid (below_thru hw1.out hb2); have z1 := cellsLater hb2 y1; have z2 := cellsLater hb2 y2; have l1 := cell_blk (i := 0) z1 rfl; have l8 := cell_blk (i := 8) z2 rfl))
      go_ret
      exact ⟨by rw [HS.out]; rfl, by rw [HU.out]; exact HT.out _ hw2.out⟩
    | false =>
      cases h3 : r.writes.any (fun x => heldIn S.P (hit x.key true)) with
      | true =>
        have HS := Lib.hid (show prepCode S r = 180 by unfold prepCode lockedB; rw [if_neg h1, h2, h3]; rfl)
        have HT := Lib.hid (fun (W : World) (hb : Below w.heap.size w W) => (Turned.refl h hb : Turned w W base ok p bk bq ev S))
        have HU := Lib.hid (show prepS S r = S by unfold prepS; rw [HS.out, if_neg (by decide)])
        rw [h2] at hCK
        rw [h3] at hCW
        clear h s7 s8 hsm h2 h3
        go_enter Try.func36, Try.ntmps36
        go_wp2_with (first | (go_at_call 33; refine (hSt _ hB).mono ?_; rintro e w1 ⟨rfl, hb1⟩; have hw1 := Lib.hid (below_thru hB hb1); have y1 := cellsLater hb1 x1; have y2 := cellsLater hb1 x2; have k1 := cell_blk (i := 0) y1 rfl; have k7 := cell_blk (i := 7) y2 rfl) | (go_at_call 76; refine (hCK _ hw1.out k1).mono ?_; rintro e w2 ⟨rfl, hb2⟩; have hw2 := Lib.hid (below_thru hw1.out hb2); have z1 := cellsLater hb2 y1; have z2 := cellsLater hb2 y2; have l1 := cell_blk (i := 0) z1 rfl; have l8 := cell_blk (i := 8) z2 rfl) | (go_at_call 78; refine (hCW _ hw2.out l1).mono ?_; rintro e w3 ⟨rfl, hb3⟩; have hw3 := Lib.hid (below_thru hw2.out hb3); have q1 := cellsLater hb3 z1; have q2 := cellsLater hb3 z2; have m1 := cell_blk (i := 0) q1 rfl))
        go_ret
        exact ⟨by rw [HS.out]; rfl, by rw [HU.out]; exact HT.out _ hw3.out⟩
      | false =>
        rw [h2] at hCK
        rw [h3] at hCW
        have c1 := cell_blk (i := 1) (u := .map (some bq)) h.blk rfl
        have hP := fun (W : World) (hW : Below w.heap.size w W) => (h.below hW).preps
        by_cases h4 : 1024 ≤ Maps.size S.P
        · have HS := Lib.hid (show prepCode S r = 2 by unfold prepCode lockedB; rw [if_neg h1, h2, h3, if_neg (by decide), if_pos h4])
          have HT := Lib.hid (fun (W : World) (hb : Below w.heap.size w W) => (Turned.refl h hb : Turned w W base ok p bk bq ev S))
          have HU := Lib.hid (show prepS S r = S by unfold prepS; rw [HS.out, if_neg (by decide)])
          have d4 : (1024 : Int) ≤ (Maps.size S.P : Int) := by omega
          clear h s7 s8 hsm h2 h3
          go_enter Try.func36, Try.ntmps36
          go_wp2_with (first | (go_at_call 33; refine (hSt _ hB).mono ?_; rintro e w1 ⟨rfl, hb1⟩; have hw1 := Lib.hid (below_thru hB hb1); have y1 := cellsLater hb1 x1; have y2 := cellsLater hb1 x2; have k1 := cell_blk (i := 0) y1 rfl; have k7 := cell_blk (i := 7) y2 rfl) | (go_at_call 76; refine (hCK _ hw1.out k1).mono ?_; rintro e w2 ⟨rfl, hb2⟩; have hw2 := Lib.hid (below_thru hw1.out hb2); have z1 := cellsLater hb2 y1; have z2 := cellsLater hb2 y2; have l1 := cell_blk (i := 0) z1 rfl; have l8 := cell_blk (i := 8) z2 rfl) | (go_at_call 78; refine (hCW _ hw2.out l1).mono ?_; rintro e w3 ⟨rfl, hb3⟩; have hw3 := Lib.hid (below_thru hw2.out hb3); have q1 := cellsLater hb3 z1; have q2 := cellsLater hb3 z2; have m1 := cell_blk (i := 0) q1 rfl; have m2 := cell_later hw3.out c1; have hp3 := hP _ hw3.out) | (at_len; refine wpList_len_own _ rfl _ 75 rfl 3 35 Try.underlying75 _ bq _ _ rfl hp3 ?_))
          go_ret
          exact ⟨by rw [HS.out]; rfl, by rw [HU.out]; exact HT.out _ hw3.out⟩
        · have HS := Lib.hid (show prepCode S r = 0 by unfold prepCode lockedB; rw [if_neg h1, h2, h3, if_neg (by decide), if_neg h4])
          have HU := Lib.hid (show prepS S r = { S with P := S.P.put (.int .i64 r.txn) (.held r) } by unfold prepS; rw [HS.out, if_pos rfl])
          have d4 : ¬ (1024 : Int) ≤ (Maps.size S.P : Int) := by omega
          have hCp := fun (W : World) (hW : Below w.heap.size w W) => copied_any okA A7 A8 c7 c8 r W (s7.below hW) (s8.below hW) hk hw
          have hPut := fun (W : World) (hW : Below w.heap.size w W) (v : Value) (hv : RdRec W (fun b => ok b ∨ (w.heap.size ≤ b ∧ b < W.heap.size)) v r) => (h.grow hW).put_prep hwf (by show _ < 9223372036854775807; omega) hv
          have H := Lib.hid h
          have hne1 : ¬ w.heap.size = bq := by have := h.preps.lt; omega
          have hne2 : ¬ w.heap.size + 1 = bq := by have := h.preps.lt; omega
          clear h s7 s8 hsm h2 h3
          go_enter Try.func36, Try.ntmps36
          go_wp2_with (first | (go_at_call 33; refine (hSt _ hB).mono ?_; rintro e w1 ⟨rfl, hb1⟩; have hw1 := Lib.hid (below_thru hB hb1); have y1 := cellsLater hb1 x1; have y2 := cellsLater hb1 x2; have k1 := cell_blk (i := 0) y1 rfl; have k7 := cell_blk (i := 7) y2 rfl) | (go_at_call 76; refine (hCK _ hw1.out k1).mono ?_; rintro e w2 ⟨rfl, hb2⟩; have hw2 := Lib.hid (below_thru hw1.out hb2); have z1 := cellsLater hb2 y1; have z2 := cellsLater hb2 y2; have l1 := cell_blk (i := 0) z1 rfl; have l8 := cell_blk (i := 8) z2 rfl) | (go_at_call 78; refine (hCW _ hw2.out l1).mono ?_; rintro e w3 ⟨rfl, hb3⟩; have hw3 := Lib.hid (below_thru hw2.out hb3); have q1 := cellsLater hb3 z1; have q2 := cellsLater hb3 z2; have m1 := cell_blk (i := 0) q1 rfl; have m2 := cell_later hw3.out c1; have hp3 := hP _ hw3.out) | (at_len; refine wpList_len_own _ rfl _ 75 rfl 3 35 Try.underlying75 _ bq _ _ rfl hp3 ?_))
          have n1 := cell_blk (i := 1) q2 rfl
          have n0 := cell_blk (i := 0) q2 rfl
          have n2 := cell_blk (i := 2) q2 rfl
          have n3 := cell_blk (i := 3) q2 rfl
          have n4 := cell_blk (i := 4) q2 rfl
          have n5 := cell_blk (i := 5) q2 rfl
          have n6 := cell_blk (i := 6) q2 rfl
          have n7 := cell_blk (i := 7) q2 rfl
          have n8 := cell_blk (i := 8) q2 rfl
          clear hCK hCW hSt hP hp3 k1 k7 l1 l8 y1 y2 z1 z2
          go_region_held3 (fun W => W.cell? ⟨w.heap.size, 0, none⟩ = some (.pointer (some ⟨p, 0, none⟩)) ∧ W.cell? ⟨p, 1, none⟩ = some (.map (some bq)) ∧ W.cell? ⟨w.heap.size + 1, 0, none⟩ = some (.int .i64 r.kind) ∧ W.cell? ⟨w.heap.size + 1, 1, none⟩ = some (.int .i64 r.txn) ∧ W.cell? ⟨w.heap.size + 1, 2, none⟩ = some (.int .i64 r.ts) ∧ W.cell? ⟨w.heap.size + 1, 3, none⟩ = some (.int .i64 r.coord) ∧ W.cell? ⟨w.heap.size + 1, 4, none⟩ = some (.string r.key) ∧ W.cell? ⟨w.heap.size + 1, 5, none⟩ = some (.string r.text) ∧ W.cell? ⟨w.heap.size + 1, 6, none⟩ = some (.bool r.dead) ∧ W.cell? ⟨w.heap.size + 1, 7, none⟩ = some (.slice A7 r.keys.length c7) ∧ W.cell? ⟨w.heap.size + 1, 8, none⟩ = some (.slice A8 r.writes.length c8)) (go_keep)
            (first
              | (go_at_call 54; refine (hCp _ ?_).mono ?_; (exact hw3.out.drew); rintro e w4 ⟨v7, v8, rfl, r7, r8, hb4⟩; have hw4 := Lib.hid (below_thru hw3.out.drew hb4); obtain ⟨w5, hrun, hsh, hfr⟩ := hPut w4 hw4.out (recVal r v7 v8) ⟨v7, v8, rfl, r7.move (fun _ _ _ => rfl) (Nat.le_refl _) (fun b hb hbl => .inr ⟨Nat.le_trans hw3.out.size hb, hbl⟩), r8.move (fun _ _ _ => rfl) (Nat.le_refl _) (fun b hb hbl => .inr ⟨Nat.le_trans hw3.out.size hb, hbl⟩)⟩; unfold recVal at hrun; unfold recVal; have g1 := cellsLater hb4 (drew_blk q1); have g2 := cellsLater hb4 (drew_blk q2); have m3 := cell_later hw4.out c1; have P5 := hfr.obj (cellsLater hw4.out H.out.blk) H.out.p_bq; have G1 := hfr.obj g1 hne1; have G2 := hfr.obj g2 hne2; have M5 := cell_blk (i := 1) P5 rfl; have E5 := cell_blk (i := 0) G1 rfl; have J0 := cell_blk (i := 0) G2 rfl; have J1 := cell_blk (i := 1) G2 rfl; have J2 := cell_blk (i := 2) G2 rfl; have J3 := cell_blk (i := 3) G2 rfl; have J4 := cell_blk (i := 4) G2 rfl; have J5 := cell_blk (i := 5) G2 rfl; have J6 := cell_blk (i := 6) G2 rfl; have J7 := cell_blk (i := 7) G2 rfl; have J8 := cell_blk (i := 8) G2 rfl; have HF := Lib.hid hfr; have HSH := Lib.hid hsh; clear hfr hsh; have e0 := cell_blk (i := 0) g1 rfl; have j0 := cell_blk (i := 0) g2 rfl; have j1 := cell_blk (i := 1) g2 rfl; have j2 := cell_blk (i := 2) g2 rfl; have j3 := cell_blk (i := 3) g2 rfl; have j4 := cell_blk (i := 4) g2 rfl; have j5 := cell_blk (i := 5) g2 rfl; have j6 := cell_blk (i := 6) g2 rfl; have j7 := cell_blk (i := 7) g2 rfl; have j8 := cell_blk (i := 8) g2 rfl))
          all_goals
            go_wp2
            go_ret
            refine ⟨by rw [HS.out]; rfl, ?_⟩
            rw [HU.out]
            exact ⟨_, ev, HSH.out, (Frm.of_below hw4.out _).trans HF.out (fun i _ e => .inr (.inr (.inl e))), fun _ h => h.imp id And.left, fun _ h => .inl h, fun _ h => .inl h⟩
end Go.Proofs.Ytokfbikiicfafaa
