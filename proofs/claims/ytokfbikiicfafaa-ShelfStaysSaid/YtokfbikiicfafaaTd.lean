/- shelf.Apply. -/
import Derived.Test.YtokfbikiicfafaaTc
import Derived.Test.YtokfbikiicfafaaSi
namespace Go.Proofs.Ytokfbikiicfafaa
open Go.RowKit Go.Maps
set_option linter.unusedVariables false

theorem Turned.of_below {w wm w' : World} {base : Nat} {ok : Nat → Prop} {p bk bq : Nat} {ev : Value} {S2 : ShS} (hb : Below w.heap.size w wm) (h : Turned wm w' base ok p bk bq ev S2) : Turned w w' base ok p bk bq ev S2 :=
  Turned.join hb (Frm.refl _ _) (fun _ h => .inl h) (fun _ h => h) (fun _ h => .inl h) h

theorem wf_nat {n : Int} (h0 : 0 ≤ n) (h1 : n ≤ 1125899906842624) : (Lit.int .i64 n).wf = true := WalkArith.wf_i64 (by omega)

set_option maxHeartbeats 8000000 in
set_option maxRecDepth 100000 in
theorem apply_any {base : Nat} {ok okA : Nat → Prop} {p bk bq : Nat} {ev : Value} {S : ShS} (A7 A8 : Option Addr) (c7 c8 : Nat) (r : Rec) (w : World) (h : ShAt w base ok p bk bq ev S) (hs : StOk S)
    (s7 : RdSl 1 encS w okA A7 r.keys) (s8 : RdSl 3 encWr w okA A8 r.writes) (hb1 : r.keys.length * 16 ≤ 140737488351232) (hb2 : r.writes.length * 40 ≤ 140737488351232) (hbase : base ≤ w.heap.size) :
    Calls Try.prog 13 #[.pointer (some ⟨p, 0, none⟩), .agg #[.int .i64 r.kind, .int .i64 r.txn, .int .i64 r.ts, .int .i64 r.coord, .string r.key, .string r.text, .bool r.dead, .slice A7 r.keys.length c7, .slice A8 r.writes.length c8]] w fun e w' => e = .returned (.int .i64 (applyCode S r)) ∧ Turned w w' base ok p bk bq ev (applyS S r) := by
  have HB := (Below.refl w.heap.size w).alloc (Nat.le_refl _) (.cells #[.int .i64 r.kind, .int .i64 r.txn, .int .i64 r.ts, .int .i64 r.coord, .string r.key, .string r.text, .bool r.dead, .slice A7 r.keys.length c7, .slice A8 r.writes.length c8] 35 (0, 0))
  have x1 : (w.alloc (.cells #[.int .i64 r.kind, .int .i64 r.txn, .int .i64 r.ts, .int .i64 r.coord, .string r.key, .string r.text, .bool r.dead, .slice A7 r.keys.length c7, .slice A8 r.writes.length c8] 35 (0, 0))).heap[w.heap.size]? = some (.cells #[.int .i64 r.kind, .int .i64 r.txn, .int .i64 r.ts, .int .i64 r.coord, .string r.key, .string r.text, .bool r.dead, .slice A7 r.keys.length c7, .slice A8 r.writes.length c8] 35 (0, 0)) := alloc_blk rfl
  have HT := Lib.hid (fun (W : World) (hb : Below w.heap.size w W) => (Turned.refl h hb : Turned w W base ok p bk bq ev S))
  cases hn : numsB r with
  | false =>
    have hb : recB r = false := by unfold recB; rw [hn]; rfl
    have HC := Lib.hid (show applyCode S r = 80 by unfold applyCode; rw [if_pos hb])
    have HU := Lib.hid (show applyS S r = S by unfold applyS; rw [if_pos hb])
    have hK := fun (W : World) => rcheck_bad r A7 A8 r.keys.length r.writes.length c7 c8 W hn
    clear h hs s7 s8 hn hb
    go_enter Try.func13, Try.ntmps13
    go_wp2_with (go_at_call 35; refine (hK _).mono ?_; rintro e w1 ⟨rfl, hb1'⟩; have hw1 := Lib.hid (below_thru HB hb1'))
    go_ret
    exact ⟨by rw [HC.out]; rfl, by rw [HU.out]; exact HT.out _ hw1.out⟩
  | true =>
    have hK := fun (W : World) (hW : Below w.heap.size w W) => rcheck_good okA A7 A8 c7 c8 r W (s7.below hW) (s8.below hW) hb1 hb2 hn
    cases hbd : recBody r with
    | false =>
      have hb : recB r = false := by unfold recB; rw [hn, hbd]; rfl
      have HC := Lib.hid (show applyCode S r = 80 by unfold applyCode; rw [if_pos hb])
      have HU := Lib.hid (show applyS S r = S by unfold applyS; rw [if_pos hb])
      rw [hbd, show okOr false 80 = 80 from rfl] at hK
      clear h hs s7 s8 hn hb hbd
      go_enter Try.func13, Try.ntmps13
      go_wp2_with (go_at_call 35; refine (hK _ HB).mono ?_; rintro e w1 ⟨rfl, hb1'⟩; have hw1 := Lib.hid (below_thru HB hb1'))
      go_ret
      exact ⟨by rw [HC.out]; rfl, by rw [HU.out]; exact HT.out _ hw1.out⟩
    | true =>
      have hb : recB r = true := by unfold recB; rw [hn, hbd]; rfl
      have hbf : ¬ recB r = false := by rw [hb]; simp
      rw [hbd, show okOr true 80 = 0 from rfl] at hK
      obtain ⟨t1, t2, t3, t4, _, _⟩ := rec_nums hb
      have hwf := wf_nat t1 (by omega)
      by_cases k1 : r.kind = 1
      · have HC := Lib.hid (show applyCode S r = prepCode S r by unfold applyCode; rw [if_neg hbf, if_pos k1])
        have HU := Lib.hid (show applyS S r = prepS S r by unfold applyS; rw [if_neg hbf, if_pos k1])
        have hl := (rec_prep hb k1).1
        have hP := fun (W : World) (hW : Below w.heap.size w W) => prepare_any A7 A8 c7 c8 r W (h.below hW) hs.small hwf (by have := hs.es; omega) (s7.below hW) (s8.below hW) hl.kl hl.wl
        rw [k1] at hK hP HB x1 ⊢
        clear h hs s7 s8 hn hb hbf hbd k1 hl
        go_enter Try.func13, Try.ntmps13
        go_wp2_with (first | (go_at_call 35; refine (hK _ HB).mono ?_; rintro e w1 ⟨rfl, hb1'⟩; have hw1 := Lib.hid (below_thru HB hb1'); have y1 := cellsLater hb1' x1; have j0 := cell_blk (i := 0) y1 rfl; have j1 := cell_blk (i := 1) y1 rfl; have j2 := cell_blk (i := 2) y1 rfl; have j3 := cell_blk (i := 3) y1 rfl; have j4 := cell_blk (i := 4) y1 rfl; have j5 := cell_blk (i := 5) y1 rfl; have j6 := cell_blk (i := 6) y1 rfl; have j7 := cell_blk (i := 7) y1 rfl; have j8 := cell_blk (i := 8) y1 rfl) | (go_at_call 36; refine (hP _ hw1.out).mono ?_; rintro e w2 ⟨rfl, hT⟩; have HT2 := Lib.hid (Turned.of_below hw1.out hT); clear hT))
        go_ret
        exact ⟨by rw [HC.out]; rfl, by rw [HU.out]; exact HT2.out⟩
      · by_cases k2 : r.kind = 2
        · have HC := Lib.hid (show applyCode S r = doCode S r.txn r.ts by unfold applyCode; rw [if_neg hbf, if_neg k1, if_pos k2])
          have HU := Lib.hid (show applyS S r = doS S r.txn r.ts by unfold applyS; rw [if_neg hbf, if_neg k1, if_pos k2])
          have hP := fun (W : World) (hW : Below w.heap.size w W) => do_any r.txn r.ts W (h.below hW) hwf hs.es (Nat.le_trans hbase hW.size) hs.ks (fun key => hs.kc.chain _) (fun a b => by
            obtain ⟨q1, q2, q3⟩ := prep_room hs a b t4
            exact ⟨q1, q2, fun hr => (q3 hr).1⟩)
          rw [k2] at hK HB x1 ⊢
          clear h hs s7 s8 hn hb hbf hbd k1 k2
          go_enter Try.func13, Try.ntmps13
          go_wp2_with (first | (go_at_call 35; refine (hK _ HB).mono ?_; rintro e w1 ⟨rfl, hb1'⟩; have hw1 := Lib.hid (below_thru HB hb1'); have y1 := cellsLater hb1' x1; have j0 := cell_blk (i := 0) y1 rfl; have j1 := cell_blk (i := 1) y1 rfl; have j2 := cell_blk (i := 2) y1 rfl; have j3 := cell_blk (i := 3) y1 rfl; have j4 := cell_blk (i := 4) y1 rfl; have j5 := cell_blk (i := 5) y1 rfl; have j6 := cell_blk (i := 6) y1 rfl; have j7 := cell_blk (i := 7) y1 rfl; have j8 := cell_blk (i := 8) y1 rfl; clear y1) | (go_at_call 37; refine (hP _ hw1.out).mono ?_; rintro e w2 ⟨rfl, hT⟩; have HT2 := Lib.hid (Turned.of_below hw1.out hT); clear hT))
          go_ret
          exact ⟨by rw [HC.out]; rfl, by rw [HU.out]; exact HT2.out⟩
        · by_cases k4 : r.kind = 4
          · have HC := Lib.hid (show applyCode S r = sweepCode S r.ts by unfold applyCode; rw [if_neg hbf, if_neg k1, if_neg k2, if_pos k4])
            have HU := Lib.hid (show applyS S r = sweepS S r.ts by unfold applyS; rw [if_neg hbf, if_neg k1, if_neg k2, if_pos k4])
            have hP := fun (W : World) (hW : Below w.heap.size w W) => sweep_any r.ts W (h.below hW) hs.kc
            rw [k4] at hK HB x1 ⊢
            clear h hs s7 s8 hn hb hbf hbd k1 k2 k4
            go_enter Try.func13, Try.ntmps13
            go_wp2_with (first | (go_at_call 35; refine (hK _ HB).mono ?_; rintro e w1 ⟨rfl, hb1'⟩; have hw1 := Lib.hid (below_thru HB hb1'); have y1 := cellsLater hb1' x1; have j0 := cell_blk (i := 0) y1 rfl; have j1 := cell_blk (i := 1) y1 rfl; have j2 := cell_blk (i := 2) y1 rfl; have j3 := cell_blk (i := 3) y1 rfl; have j4 := cell_blk (i := 4) y1 rfl; have j5 := cell_blk (i := 5) y1 rfl; have j6 := cell_blk (i := 6) y1 rfl; have j7 := cell_blk (i := 7) y1 rfl; have j8 := cell_blk (i := 8) y1 rfl; clear y1) | (go_at_call 38; refine (hP _ hw1.out).mono ?_; rintro e w2 ⟨rfl, hT⟩; have HT2 := Lib.hid (Turned.of_below hw1.out hT); clear hT))
            go_ret
            exact ⟨by rw [HC.out]; rfl, by rw [HU.out]; exact HT2.out⟩
          · by_cases k3 : r.kind = 3
            · have hts := (rec_ver hb k3).2.2.1
              have hkey := (rec_ver hb k3).2.2.2.1
              have htx := (rec_ver hb k3).2.2.2.2.1
              have hdd := (rec_ver hb k3).2.2.2.2.2.1
              have hkl : ∀ x ∈ verWr r, x.key.size ≤ maxLen := fun x hx => by
                rw [List.mem_singleton.1 hx]
                have := keyB_size hkey
                show r.key.size ≤ maxLen
                unfold maxLen
                omega
              have hR : ∀ (W : World) (B : Nat), Below w.heap.size w W → W.heap[B]? = some (.cells #[.string r.key, .string r.text, .bool r.dead] 56 (0, 0)) → Calls Try.prog 39 #[.pointer (some ⟨p, 0, none⟩), .slice (some ⟨B, 0, none⟩) 1 1, .int .i64 r.ts] W fun e w' => e = .returned (.int .i64 (verCode S r)) ∧ Below W.heap.size W w' := fun W B hW hB =>
                room_any (okA := fun _ => True) (some ⟨B, 0, none⟩) 1 (verWr r) r.ts W (h.below hW) (rd_one (fun _ => True) trivial hB) (by simp [verWr]) hs.ks hkl (fun key => hs.kc.chain _)
              by_cases hc : verCode S r = 0
              · have HC := Lib.hid (show applyCode S r = 0 by unfold applyCode; rw [if_neg hbf, if_neg k1, if_neg k2, if_neg k4, if_pos k3, hc])
                have HU := Lib.hid (show applyS S r = { S with K := putS S.K (verWr r) r.ts } by unfold applyS; rw [if_neg hbf, if_neg k1, if_neg k2, if_neg k4, if_pos k3]; unfold verS; rw [if_pos hc])
                have hrm := (room_ok hs (l := verWr r) hc (by omega) t4 (by simp [verWr]) (fun x hxm => by rw [List.mem_singleton.1 hxm]; exact hkey) (fun x hxm => by
                  rw [List.mem_singleton.1 hxm]
                  unfold wrB
                  simp only [Bool.and_eq_true, decide_eq_true_eq, Bool.not_eq_true', Bool.and_eq_false_iff]
                  refine ⟨htx, ?_⟩
                  cases hd : r.dead with
                  | false => exact .inl rfl
                  | true => right; rw [hdd hd]; rfl)).1
                have hP : ∀ (W : World) (B : Nat), Below w.heap.size w W → W.heap[B]? = some (.cells #[.string r.key, .string r.text, .bool r.dead] 56 (0, 0)) → w.heap.size ≤ B → Calls Try.prog 40 #[.pointer (some ⟨p, 0, none⟩), .slice (some ⟨B, 0, none⟩) 1 1, .int .i64 r.ts] W fun e w' => e = .returned (.tuple #[]) ∧ Turned W w' base ok p bk bq ev { S with K := putS S.K (verWr r) r.ts } := fun W B hW hB hge =>
                  put_any (okL := fun b => b = B) (some ⟨B, 0, none⟩) 1 (verWr r) r.ts W (h.below hW) (rd_one (fun b => b = B) rfl hB) (fun b hb hm => by
                    subst hb
                    have := (h.mut_ge hm).2
                    omega) (by simp [verWr]) hrm
                rw [k3] at hK HB x1 ⊢
                rw [hc] at hR
                clear h hs s7 s8 hn hb hbf hbd k1 k2 k3 k4 hkl hdd hc hrm
                go_enter Try.func13, Try.ntmps13
                go_wp2_with (first | (go_at_call 35; refine (hK _ HB).mono ?_; rintro e w1 ⟨rfl, hb1'⟩; have hw1 := Lib.hid (below_thru HB hb1'); have y1 := cellsLater hb1' x1; have j0 := cell_blk (i := 0) y1 rfl; have j1 := cell_blk (i := 1) y1 rfl; have j2 := cell_blk (i := 2) y1 rfl; have j3 := cell_blk (i := 3) y1 rfl; have j4 := cell_blk (i := 4) y1 rfl; have j5 := cell_blk (i := 5) y1 rfl; have j6 := cell_blk (i := 6) y1 rfl; have j7 := cell_blk (i := 7) y1 rfl; have j8 := cell_blk (i := 8) y1 rfl; have z1 := alloc_old (o := .cells #[.string r.key, .string r.text, .bool r.dead] 56 (0, 0)) y1; have q0 := cell_blk (i := 0) z1 rfl; have q2 := cell_blk (i := 2) z1 rfl; clear y1) | (go_at_call 39; refine (hR _ w1.heap.size ?_ ?_).mono ?_; (exact below_thru hw1.out ((Below.refl _ _).alloc (Nat.le_refl _) _)); (exact alloc_blk rfl); rintro e w2 ⟨rfl, hb2'⟩; have hw2 := Lib.hid (below_thru (below_thru hw1.out ((Below.refl _ _).alloc (Nat.le_refl _) _)) hb2'); have z2 := cellsLater hb2' z1; have v2 := cell_blk (i := 2) z2 rfl; have g2 := Lib.hid (cellsLater hb2' (alloc_blk (w := w1) (o := .cells #[.string r.key, .string r.text, .bool r.dead] 56 (0, 0)) rfl)); clear z2) | (go_at_call 40; refine (hP _ w1.heap.size hw2.out g2.out hw1.out.size).mono ?_; rintro e w3 ⟨rfl, hT⟩; have HT2 := Lib.hid (Turned.of_below hw2.out hT); clear hT))
                go_ret
                exact ⟨by rw [HC.out]; rfl, by rw [HU.out]; exact HT2.out⟩
              · have HC := Lib.hid (show applyCode S r = verCode S r by unfold applyCode; rw [if_neg hbf, if_neg k1, if_neg k2, if_neg k4, if_pos k3])
                have HU := Lib.hid (show applyS S r = S by unfold applyS; rw [if_neg hbf, if_neg k1, if_neg k2, if_neg k4, if_pos k3]; unfold verS; rw [if_neg hc])
                have d5 : (verCode S r == 0) = false := beq_eq_false_iff_ne.2 hc
                rw [k3] at hK HB x1 ⊢
                clear h hs s7 s8 hn hb hbf hbd k1 k2 k3 k4 hkl hdd hc
                go_enter Try.func13, Try.ntmps13
                go_wp2_with (first | (go_at_call 35; refine (hK _ HB).mono ?_; rintro e w1 ⟨rfl, hb1'⟩; have hw1 := Lib.hid (below_thru HB hb1'); have y1 := cellsLater hb1' x1; have j0 := cell_blk (i := 0) y1 rfl; have j1 := cell_blk (i := 1) y1 rfl; have j2 := cell_blk (i := 2) y1 rfl; have j3 := cell_blk (i := 3) y1 rfl; have j4 := cell_blk (i := 4) y1 rfl; have j5 := cell_blk (i := 5) y1 rfl; have j6 := cell_blk (i := 6) y1 rfl; have j7 := cell_blk (i := 7) y1 rfl; have j8 := cell_blk (i := 8) y1 rfl; have z1 := alloc_old (o := .cells #[.string r.key, .string r.text, .bool r.dead] 56 (0, 0)) y1; have q0 := cell_blk (i := 0) z1 rfl; have q2 := cell_blk (i := 2) z1 rfl; clear y1) | (go_at_call 39; refine (hR _ w1.heap.size ?_ ?_).mono ?_; (exact below_thru hw1.out ((Below.refl _ _).alloc (Nat.le_refl _) _)); (exact alloc_blk rfl); rintro e w2 ⟨rfl, hb2'⟩; have hw2 := Lib.hid (below_thru (below_thru hw1.out ((Below.refl _ _).alloc (Nat.le_refl _) _)) hb2'); have z2 := cellsLater hb2' z1; have v2 := cell_blk (i := 2) z2 rfl; have g2 := Lib.hid (cellsLater hb2' (alloc_blk (w := w1) (o := .cells #[.string r.key, .string r.text, .bool r.dead] 56 (0, 0)) rfl)); clear z2))
                go_ret
                exact ⟨by rw [HC.out]; rfl, by rw [HU.out]; exact HT.out _ hw2.out⟩
            · have HC := Lib.hid (show applyCode S r = 80 by unfold applyCode; rw [if_neg hbf, if_neg k1, if_neg k2, if_neg k4, if_neg k3])
              have HU := Lib.hid (show applyS S r = S by unfold applyS; rw [if_neg hbf, if_neg k1, if_neg k2, if_neg k4, if_neg k3])
              have d1 : (r.kind == 1) = false := beq_eq_false_iff_ne.2 k1
              have d2 : (r.kind == 2) = false := beq_eq_false_iff_ne.2 k2
              have d3 : (r.kind == 3) = false := beq_eq_false_iff_ne.2 k3
              have d4 : (r.kind == 4) = false := beq_eq_false_iff_ne.2 k4
              clear h hs s7 s8 hn hb hbf hbd k1 k2 k3 k4
              go_enter Try.func13, Try.ntmps13
              go_wp2_with (first | (go_at_call 35; refine (hK _ HB).mono ?_; rintro e w1 ⟨rfl, hb1'⟩; have hw1 := Lib.hid (below_thru HB hb1'); have y1 := cellsLater hb1' x1; have j0 := cell_blk (i := 0) y1 rfl; have j1 := cell_blk (i := 1) y1 rfl; have j2 := cell_blk (i := 2) y1 rfl; have j3 := cell_blk (i := 3) y1 rfl; have j4 := cell_blk (i := 4) y1 rfl; have j5 := cell_blk (i := 5) y1 rfl; have j6 := cell_blk (i := 6) y1 rfl; have j7 := cell_blk (i := 7) y1 rfl; have j8 := cell_blk (i := 8) y1 rfl; clear y1))
              go_ret
              exact ⟨by rw [HC.out]; rfl, by rw [HU.out]; exact HT.out _ hw1.out⟩
end Go.Proofs.Ytokfbikiicfafaa
