/- shelf.do. -/
import Derived.Test.YtokfbikiicfafaaSv
import Derived.Maps.AppendAt
namespace Go.Proofs.Ytokfbikiicfafaa
open Go.RowKit Go.Maps
set_option linter.unusedVariables false

theorem Turned.join {w wm w3 w' : World} {base : Nat} {ok ok1 : Nat → Prop} {p bk bq : Nat} {ev ev1 : Value} {S2 : ShS} (hb : Below w.heap.size w wm) (f1 : Frm wm w3 (Mut p bk bq ev)) (g1 : ∀ b, ok1 b → ok b ∨ wm.heap.size ≤ b) (i1 : ∀ b, ok b → ok1 b) (j1 : ∀ k, ev1.ownBlock = some k → ev.ownBlock = some k ∨ wm.heap.size ≤ k)
    (h : Turned w3 w' base ok1 p bk bq ev1 S2) : Turned w w' base ok p bk bq ev S2 := by
  obtain ⟨o2, e2, s2, f2, g2, i2, j2⟩ := h
  exact Turned.next ((Frm.of_below hb _).trans f1 (fun _ _ e => e)) (fun b hb' => (g1 b hb').imp id (fun h => Nat.le_trans hb.size h)) i1 (fun k hk => (j1 k hk).imp id (fun h => Nat.le_trans hb.size h)) s2 f2 g2 i2 j2

set_option maxHeartbeats 8000000 in
set_option maxRecDepth 100000 in
theorem do_any {base : Nat} {ok : Nat → Prop} {p bk bq : Nat} {ev : Value} {S : ShS} (txn ts : Int) (w : World) (h : ShAt w base ok p bk bq ev S) (hwf : (Lit.int .i64 txn).wf = true) (hE : S.E.length ≤ 1024) (hbase : base ≤ w.heap.size) (hsz : Maps.size S.K ≤ 1024) (hch : ∀ key, ChainOk (chain S.K key)) (hpw : (stateOf S txn).1 = 1 → 0 < ts → (prepWrites S txn).length ≤ 1024 ∧ (∀ x ∈ prepWrites S txn, x.key.size ≤ maxLen) ∧ (roomCode S (prepWrites S txn) ts = 0 → PutOk S.K (prepWrites S txn) ts)) :
    Calls Try.prog 37 #[.pointer (some ⟨p, 0, none⟩), .int .i64 txn, .int .i64 ts] w fun e w' => e = .returned (.int .i64 (doCode S txn ts)) ∧ Turned w w' base ok p bk bq ev (doS S txn ts) := by
  have hSt := state_any txn w h hwf (by omega)
  by_cases h1 : 1 < (stateOf S txn).1
  · have d1 : decide ((stateOf S txn).1 > 1) = true := decide_eq_true h1
    by_cases h2 : (stateOf S txn).2 = ts
    · have HS := Lib.hid (show doCode S txn ts = 6 by unfold doCode; rw [if_pos h1, if_pos h2])
      have HU := Lib.hid (show doS S txn ts = S by unfold doS; rw [HS.out, if_neg (by decide)])
      have HT := Lib.hid (fun (W : World) (hb : Below w.heap.size w W) => (Turned.refl h hb : Turned w W base ok p bk bq ev S))
      have d2 : ((stateOf S txn).2 == ts) = true := beq_iff_eq.2 h2
      clear h
      go_enter Try.func37, Try.ntmps37
      go_wp2_with (go_at_call 33; refine hSt.mono ?_; rintro e w1 ⟨rfl, hb1⟩)
      all_goals
        go_ret
        exact ⟨by rw [HS.out]; rfl, by rw [HU.out]; exact HT.out _ hb1⟩
    · have HS := Lib.hid (show doCode S txn ts = 120 by unfold doCode; rw [if_pos h1, if_neg h2])
      have HU := Lib.hid (show doS S txn ts = S by unfold doS; rw [HS.out, if_neg (by decide)])
      have HT := Lib.hid (fun (W : World) (hb : Below w.heap.size w W) => (Turned.refl h hb : Turned w W base ok p bk bq ev S))
      have d2 : ((stateOf S txn).2 == ts) = false := beq_eq_false_iff_ne.2 h2
      clear h
      go_enter Try.func37, Try.ntmps37
      go_wp2_with (go_at_call 33; refine hSt.mono ?_; rintro e w1 ⟨rfl, hb1⟩)
      all_goals
        go_ret
        exact ⟨by rw [HS.out]; rfl, by rw [HU.out]; exact HT.out _ hb1⟩
  · have d1 : decide ((stateOf S txn).1 > 1) = false := decide_eq_false h1
    obtain ⟨i0, hi, hi0, hi1, hi2⟩ := info_parts info_fin
    by_cases h3 : (stateOf S txn).1 = 1 ∧ 0 < ts
    · have hts : 0 < ts := h3.2
      obtain ⟨hpl, hpk, hpo⟩ := hpw h3.1 h3.2
      have d3 : ((stateOf S txn).1 == 1) = true := beq_iff_eq.2 h3.1
      have d4 : decide (ts > 0) = true := decide_eq_true hts
      obtain ⟨r, v7, v8, ⟨A7, c7, e7, _, _, _⟩, ⟨A8, c8, e8, _, _, s8⟩, hat, hlook⟩ := look_prep h txn hwf false
      subst e7
      subst e8
      unfold recVal at hlook
      simp only [Bool.false_eq_true, if_false] at hlook
      have ew : prepWrites S txn = r.writes := by unfold prepWrites; rw [hat]
      rw [ew] at hpl hpk hpo
      have hlt := h.preps.lt
      have hfl : ∀ W : World, (Instr.field 35 (.agg #[.int .i64 r.kind, .int .i64 r.txn, .int .i64 r.ts, .int .i64 r.coord, .string r.key, .string r.text, .bool r.dead, .slice A7 r.keys.length c7, .slice A8 r.writes.length c8]) 8).run Try.prog W = .ok (.slice A8 r.writes.length c8) W := fun W => by kernel_rfl
      have c1 := cell_blk (i := 1) (u := .map (some bq)) h.blk rfl
      have hR := fun (W : World) (hW : Below w.heap.size w W) => room_any A8 c8 r.writes ts W (h.below hW) (s8.below hW) hpl hsz hpk hch
      by_cases hr : roomCode S r.writes ts = 0
      · have HS := Lib.hid (show doCode S txn ts = 0 by unfold doCode; rw [if_neg h1, if_pos h3, ew, hr])
        have HU := Lib.hid (show doS S txn ts = { S with K := putS S.K r.writes ts, P := S.P.del (.int .i64 txn), E := cutE (S.E ++ [⟨txn, ts⟩]) } by unfold doS; rw [HS.out, if_pos rfl, if_pos h3, ew])
        have hPt := fun (W : World) (hW : Below w.heap.size w W) => put_any A8 c8 r.writes ts W (h.below hW) (s8.below hW) (fun b hb hm => h.mut_no hm hb) hpl (hpo hr)
        rw [hr] at hR
        clear h1 h3 hts hat ew
        go_enter Try.func37, Try.ntmps37
        go_wp2_with (first | (go_at_call 33; refine hSt.mono ?_; rintro e w1 ⟨rfl, hb1⟩; have hw1 := Lib.hid hb1; have k1 := cell_later hb1 c1; clear hb1) | (at_lookup; refine wpList_lookup_run rfl _ _ _ _ rfl rfl rfl (hlook _ (hw1.out.block bq hlt)) ?_) | (go_at_call 39; refine (hR _ hw1.out).mono ?_; rintro e wm ⟨rfl, hbm⟩; have hwm := Lib.hid (below_thru hw1.out hbm); clear k1) | (go_at_call 40; refine (hPt _ hwm.out).mono ?_; rintro e w3 ⟨rfl, hT⟩; obtain ⟨ok1, ev1, sh1, f1, g1, i1, j1⟩ := hT; obtain ⟨w2, hrun, sh2, fr2⟩ := sh1.del_prep hwf 0; have k1 := cell_blk (i := 1) sh1.blk rfl; have k2 := cell_blk (i := 2) (alloc_old (o := .cells #[.int .i64 txn, .int .i64 ts] 96 (0, 0)) sh2.blk) rfl; have k2' := cell_blk (i := 2) sh2.blk rfl; have HSH := Lib.hid sh2; have HFR := Lib.hid fr2; have HBR := Lib.hid (Below.refl w3.heap.size w3); have TN := Lib.hid (fun (w' : World) (S2 : ShS) (hT2 : Turned w3 w' base ok1 p bk bq ev1 S2) => Turned.join hwm.out f1 g1 i1 j1 hT2); have hb3 : base ≤ w3.heap.size := Nat.le_trans hbase (Nat.le_trans hwm.out.size f1.size); clear sh2 fr2 sh1 f1 g1 i1 j1) | (at_delete; refine wpList_delete_run rfl _ _ _ _ rfl rfl rfl hrun ?_) | (at_builtin; refine wpList_append_own_at _ rfl _ _ 76 rfl base 96 i0 (.agg #[.int .i64 0, .int .i64 0]) 2 16 Try.underlying76 hi hi0 hi1 hi2 rfl (by decide) _ S.E.length (S.E.flatMap encFin) rfl (own_move HSH.out.ends (fun k hk => (MapKept.heap_alloc w2 _).2 k (own_block_lt HSH.out.ends hk).2)) ⟨w2.heap.size, 0, none⟩ 1 1 [.int .i64 txn, .int .i64 ts] rfl ?qc1 ?qc2 ?qc3 ?qc4 ?qc5 ?qc6 ?_))
        case qc1 => rfl
        case qc2 =>
          intro j u hj
          match j, hj with
          | 0, hj => cases hj; exact cell_blk (i := 0) (alloc_blk rfl) rfl
          | 1, hj => cases hj; exact cell_blk (i := 1) (alloc_blk rfl) rfl
        case qc3 =>
          intro u hu
          rcases List.mem_cons.1 hu with rfl | hu
          · rfl
          · rcases List.mem_cons.1 hu with rfl | hu
            · rfl
            · cases hu
        case qc4 => unfold maxLen; omega
        case qc5 => omega
        case qc6 => have := HFR.out.size; have := HBR.out.size; simp; omega
        intro ev4 w4 hown' hgrow _ hat
        have fg : Frm (w2.alloc (.cells #[.int .i64 txn, .int .i64 ts] 96 (0, 0))) w4 (fun i => ev1.ownBlock = some i) := ⟨hgrow.os, hgrow.tape, hgrow.output, hgrow.size, fun i hi hn => hgrow.block i hi (fun e => hn e.symm)⟩
        have f4 : Frm w2 w4 (fun i => ev1.ownBlock = some i) := (Frm.of_below ((Below.refl w2.heap.size w2).alloc (Nat.le_refl _) _) (fun i => ev1.ownBlock = some i)).trans fg (fun _ _ e => e)
        have hat5 : ∀ k, ev4.ownBlock = some k → ev1.ownBlock = some k ∨ w3.heap.size ≤ k := fun k hk => by
          rcases hat with h | h
          · exact .inl (h.symm.trans hk)
          · rw [h] at hk
            cases hk
            have := HFR.out.size
            have := HBR.out.size
            right
            omega
        have HAT := Lib.hid hat5
        clear hat5
        have ho4 : w4.ownsRow base 96 2 ev4 (S.E ++ [(⟨txn, ts⟩ : Fin2)]).length ((S.E ++ [(⟨txn, ts⟩ : Fin2)]).flatMap encFin) := by
          have e1 : (S.E ++ [(⟨txn, ts⟩ : Fin2)]).length = S.E.length + 1 := by simp
          have e2 : (S.E ++ [(⟨txn, ts⟩ : Fin2)]).flatMap encFin = S.E.flatMap encFin ++ [.int .i64 txn, .int .i64 ts] := by simp [encFin]
          rw [e1, e2]
          exact hown'
        obtain ⟨sh5, f5⟩ := HSH.out.set_ends f4 ho4 (fun k hk => by
          rcases hat with h | h
          · exact .inl (h.symm.trans hk)
          · rw [h] at hk
            cases hk
            right
            first | omega | (simp; done) | (simp; omega))
        obtain ⟨A5, c5, e5, hc5, hn5, s5⟩ := own_rdv ho4 len_encFin
        subst e5
        have hb4 := f4.obj HSH.out.blk (fun e => HSH.out.ev_p e)
        have m2 := cell_blk (i := 2) hb4 rfl
        have mf := frozen_blk (i := 2) hb4
        clear hown' hgrow hat f4 hb4 k1 k2 k2' hrun
        have hl5 : (S.E ++ [(⟨txn, ts⟩ : Fin2)]).length = S.E.length + 1 := by simp
        by_cases hcut : 1024 < S.E.length + 1
        · have hE4 : S.E.length = 1024 := by omega
          obtain ⟨b5, off5, eA, _, hbl5, _⟩ := s5 (by simp)
          subst eA
          have hrd := own_rd sh5.ends len_encFin
          obtain ⟨A6, c6, e6, hc6, s6⟩ := hrd
          rw [hl5] at sh5 f5 e6 hc6
          cases e6
          have hQ := clone_fin _ (some ⟨b5, off5 + 1 * 2, none⟩) (c5 - 1) ((S.E ++ [(⟨txn, ts⟩ : Fin2)]).drop 1) _ (s6.dropK 1) (by simp; omega)
          have hdl : ((S.E ++ [(⟨txn, ts⟩ : Fin2)]).drop 1).length = S.E.length := by simp
          rw [hdl, hl5] at hQ
          have hc1 : (1024 : Int) < (S.E.length : Int) + 1 := by omega
          have dc : ¬ c5 = 1 := by omega
          have dc1 : 1 ≤ c5 := by omega
          have SH5 := Lib.hid sh5
          have F5 := Lib.hid f5
          have HAT' := HAT.out
          rw [hl5] at HAT'
          have HAT2 := Lib.hid HAT'
          rw [Nat.one_mul] at hQ
          clear sh5 f5 HAT' HAT s5 s6 hE4
          go_wp2_with (go_at_call 46; refine hQ.mono ?_; rintro e w6 ⟨v6, rfl, ho6, hb6⟩; obtain ⟨A7, c7, e7, _, _⟩ := own_rd (by rw [hdl]; exact ho6 : World.ownsRow _ _ _ _ v6 ((S.E ++ [(⟨txn, ts⟩ : Fin2)]).drop 1).length _) len_encFin; rw [hdl] at e7; subst e7; have pb := cellsLater hb6 SH5.out.blk; have pm := cell_blk (i := 2) pb rfl; have pf := frozen_blk (i := 2) pb)
          go_ret
          refine ⟨by rw [HS.out]; rfl, ?_⟩
          rw [HU.out, show cutE (S.E ++ [(⟨txn, ts⟩ : Fin2)]) = (S.E ++ [(⟨txn, ts⟩ : Fin2)]).drop 1 from by unfold cutE; rw [hl5, if_pos hcut]]
          obtain ⟨sh7, f7⟩ := SH5.out.set_ends (E1 := (S.E ++ [(⟨txn, ts⟩ : Fin2)]).drop 1) (Frm.of_below hb6 _) (by rw [hdl]; exact own_lower ho6 (by have := HFR.out.size; have := HBR.out.size; have := F5.out.size; omega)) (fun k hk => .inr (own_block_lt ho6 hk).1)
          exact TN.out _ _ <| Turned.next (ok := ok1) ((Frm.of_below HBR.out (Mut p bk bq ev1)).trans HFR.out (fun i _ e => .inr (.inr (.inl e))) |>.trans F5.out (fun _ _ e => e)) (fun _ h => .inl h) (fun _ h => h) HAT2.out sh7 f7 (fun _ h => .inl h) (fun _ h => h) (fun k hk => .inr (own_block_lt ho6 hk).1)
        · rw [hl5] at sh5 f5
          have hc1 : ¬ (1024 : Int) < (S.E.length : Int) + 1 := by omega
          have SH5 := Lib.hid sh5
          have F5 := Lib.hid f5
          have HAT' := HAT.out
          rw [hl5] at HAT'
          have HAT2 := Lib.hid HAT'
          clear sh5 f5 HAT' HAT
          go_wp2
          go_ret
          refine ⟨by rw [HS.out]; rfl, ?_⟩
          rw [HU.out, show cutE (S.E ++ [⟨txn, ts⟩]) = S.E ++ [⟨txn, ts⟩] from by unfold cutE; rw [hl5, if_neg hcut]]
          exact TN.out _ _ <| ⟨ok1, _, SH5.out, ((Frm.of_below HBR.out (Mut p bk bq ev1)).trans HFR.out (fun i _ e => .inr (.inr (.inl e)))).trans F5.out (fun _ _ e => e), fun _ h => .inl h, fun _ h => h, HAT2.out⟩
      · have HS := Lib.hid (show doCode S txn ts = roomCode S r.writes ts by unfold doCode; rw [if_neg h1, if_pos h3, ew])
        have HU := Lib.hid (show doS S txn ts = S by unfold doS; rw [HS.out, if_neg hr])
        have HT := Lib.hid (fun (W : World) (hb : Below w.heap.size w W) => (Turned.refl h hb : Turned w W base ok p bk bq ev S))
        have d5 : (roomCode S r.writes ts == 0) = false := beq_eq_false_iff_ne.2 hr
        clear h1 h3 hts hat ew h s8
        go_enter Try.func37, Try.ntmps37
        go_wp2_with (first | (go_at_call 33; refine hSt.mono ?_; rintro e w1 ⟨rfl, hb1⟩; have hw1 := Lib.hid hb1; have k1 := cell_later hb1 c1; clear hb1) | (at_lookup; refine wpList_lookup_run rfl _ _ _ _ rfl rfl rfl (hlook _ (hw1.out.block bq hlt)) ?_) | (go_at_call 39; refine (hR _ hw1.out).mono ?_; rintro e wm ⟨rfl, hbm⟩; have hwm := Lib.hid (below_thru hw1.out hbm); clear k1))
        go_ret
        exact ⟨by rw [HS.out]; rfl, by rw [HU.out]; exact HT.out _ hwm.out⟩
    · have HS := Lib.hid (show doCode S txn ts = 0 by unfold doCode; rw [if_neg h1, if_neg h3])
      have HU := Lib.hid (show doS S txn ts = { S with P := S.P.del (.int .i64 txn), E := cutE (S.E ++ [⟨txn, ts⟩]) } by unfold doS; rw [HS.out, if_pos rfl, if_neg h3])
      by_cases h4 : (stateOf S txn).1 = 1
      · have hts : ¬ 0 < ts := fun h => h3 ⟨h4, h⟩
        have d3 : ((stateOf S txn).1 == 1) = true := beq_iff_eq.2 h4
        have d4 : decide (ts > 0) = false := decide_eq_false hts
        clear h1 h3 h4 hts
        go_enter Try.func37, Try.ntmps37
        go_wp2_with (first | (go_at_call 33; refine hSt.mono ?_; rintro e w1 ⟨rfl, hb1⟩; obtain ⟨w2, hrun, sh2, fr2⟩ := (h.below hb1).del_prep hwf 0; have k1 := cell_blk (i := 1) (h.below hb1).blk rfl; have k2 := cell_blk (i := 2) (alloc_old (o := .cells #[.int .i64 txn, .int .i64 ts] 96 (0, 0)) sh2.blk) rfl; have k2' := cell_blk (i := 2) sh2.blk rfl; have HW1 := Lib.hid hb1; have HSH := Lib.hid sh2; have HFR := Lib.hid fr2; clear sh2 fr2 hb1) | (at_delete; refine wpList_delete_run rfl _ _ _ _ rfl rfl rfl hrun ?_) | (at_builtin; refine wpList_append_own_at _ rfl _ _ 76 rfl base 96 i0 (.agg #[.int .i64 0, .int .i64 0]) 2 16 Try.underlying76 hi hi0 hi1 hi2 rfl (by decide) _ S.E.length (S.E.flatMap encFin) rfl (own_move HSH.out.ends (fun k hk => (MapKept.heap_alloc w2 _).2 k (own_block_lt HSH.out.ends hk).2)) ⟨w2.heap.size, 0, none⟩ 1 1 [.int .i64 txn, .int .i64 ts] rfl ?qc1 ?qc2 ?qc3 ?qc4 ?qc5 ?qc6 ?_))
        case qc1 => rfl
        case qc2 =>
          intro j u hj
          match j, hj with
          | 0, hj => cases hj; exact cell_blk (i := 0) (alloc_blk rfl) rfl
          | 1, hj => cases hj; exact cell_blk (i := 1) (alloc_blk rfl) rfl
        case qc3 =>
          intro u hu
          rcases List.mem_cons.1 hu with rfl | hu
          · rfl
          · rcases List.mem_cons.1 hu with rfl | hu
            · rfl
            · cases hu
        case qc4 => unfold maxLen; omega
        case qc5 => omega
        case qc6 => have := HFR.out.size; have := HW1.out.size; simp; omega
        intro ev4 w4 hown' hgrow _ hat
        have fg : Frm (w2.alloc (.cells #[.int .i64 txn, .int .i64 ts] 96 (0, 0))) w4 (fun i => ev.ownBlock = some i) := ⟨hgrow.os, hgrow.tape, hgrow.output, hgrow.size, fun i hi hn => hgrow.block i hi (fun e => hn e.symm)⟩
        have f4 : Frm w2 w4 (fun i => ev.ownBlock = some i) := (Frm.of_below ((Below.refl w2.heap.size w2).alloc (Nat.le_refl _) _) (fun i => ev.ownBlock = some i)).trans fg (fun _ _ e => e)
        have hat5 : ∀ k, ev4.ownBlock = some k → ev.ownBlock = some k ∨ w.heap.size ≤ k := fun k hk => by
          rcases hat with h | h
          · exact .inl (h.symm.trans hk)
          · rw [h] at hk
            cases hk
            have := HFR.out.size
            have := HW1.out.size
            right
            omega
        have HAT := Lib.hid hat5
        clear hat5
        have ho4 : w4.ownsRow base 96 2 ev4 (S.E ++ [(⟨txn, ts⟩ : Fin2)]).length ((S.E ++ [(⟨txn, ts⟩ : Fin2)]).flatMap encFin) := by
          have e1 : (S.E ++ [(⟨txn, ts⟩ : Fin2)]).length = S.E.length + 1 := by simp
          have e2 : (S.E ++ [(⟨txn, ts⟩ : Fin2)]).flatMap encFin = S.E.flatMap encFin ++ [.int .i64 txn, .int .i64 ts] := by simp [encFin]
          rw [e1, e2]
          exact hown'
        obtain ⟨sh5, f5⟩ := HSH.out.set_ends f4 ho4 (fun k hk => by
          rcases hat with h | h
          · exact .inl (h.symm.trans hk)
          · rw [h] at hk
            cases hk
            right
            first | omega | (simp; done) | (simp; omega))
        obtain ⟨A5, c5, e5, hc5, hn5, s5⟩ := own_rdv ho4 len_encFin
        subst e5
        have hb4 := f4.obj HSH.out.blk (fun e => HSH.out.ev_p e)
        have m2 := cell_blk (i := 2) hb4 rfl
        have mf := frozen_blk (i := 2) hb4
        clear hown' hgrow hat f4 hb4 k1 k2 k2' hrun hSt
        have hl5 : (S.E ++ [(⟨txn, ts⟩ : Fin2)]).length = S.E.length + 1 := by simp
        by_cases hcut : 1024 < S.E.length + 1
        · have hE4 : S.E.length = 1024 := by omega
          obtain ⟨b5, off5, eA, _, hbl5, _⟩ := s5 (by simp)
          subst eA
          have hrd := own_rd sh5.ends len_encFin
          obtain ⟨A6, c6, e6, hc6, s6⟩ := hrd
          rw [hl5] at sh5 f5 e6 hc6
          cases e6
          have hQ := clone_fin _ (some ⟨b5, off5 + 1 * 2, none⟩) (c5 - 1) ((S.E ++ [(⟨txn, ts⟩ : Fin2)]).drop 1) _ (s6.dropK 1) (by simp; omega)
          have hdl : ((S.E ++ [(⟨txn, ts⟩ : Fin2)]).drop 1).length = S.E.length := by simp
          rw [hdl, hl5] at hQ
          have hc1 : (1024 : Int) < (S.E.length : Int) + 1 := by omega
          have dc : ¬ c5 = 1 := by omega
          have dc1 : 1 ≤ c5 := by omega
          have SH5 := Lib.hid sh5
          have F5 := Lib.hid f5
          have HAT' := HAT.out
          rw [hl5] at HAT'
          have HAT2 := Lib.hid HAT'
          rw [Nat.one_mul] at hQ
          clear sh5 f5 HAT' HAT s5 s6 hE4
          go_wp2_with (go_at_call 46; refine hQ.mono ?_; rintro e w6 ⟨v6, rfl, ho6, hb6⟩; obtain ⟨A7, c7, e7, _, _⟩ := own_rd (by rw [hdl]; exact ho6 : World.ownsRow _ _ _ _ v6 ((S.E ++ [(⟨txn, ts⟩ : Fin2)]).drop 1).length _) len_encFin; rw [hdl] at e7; subst e7; have pb := cellsLater hb6 SH5.out.blk; have pm := cell_blk (i := 2) pb rfl; have pf := frozen_blk (i := 2) pb)
          go_ret
          refine ⟨by rw [HS.out]; rfl, ?_⟩
          rw [HU.out, show cutE (S.E ++ [(⟨txn, ts⟩ : Fin2)]) = (S.E ++ [(⟨txn, ts⟩ : Fin2)]).drop 1 from by unfold cutE; rw [hl5, if_pos hcut]]
          obtain ⟨sh7, f7⟩ := SH5.out.set_ends (E1 := (S.E ++ [(⟨txn, ts⟩ : Fin2)]).drop 1) (Frm.of_below hb6 _) (by rw [hdl]; exact own_lower ho6 (by have := HFR.out.size; have := HW1.out.size; have := F5.out.size; omega)) (fun k hk => .inr (own_block_lt ho6 hk).1)
          exact Turned.next ((Frm.of_below HW1.out (Mut p bk bq ev)).trans HFR.out (fun i _ e => .inr (.inr (.inl e))) |>.trans F5.out (fun _ _ e => e)) (fun _ h => .inl h) (fun _ h => h) HAT2.out sh7 f7 (fun _ h => .inl h) (fun _ h => h) (fun k hk => .inr (own_block_lt ho6 hk).1)
        · rw [hl5] at sh5 f5
          have hc1 : ¬ (1024 : Int) < (S.E.length : Int) + 1 := by omega
          have SH5 := Lib.hid sh5
          have F5 := Lib.hid f5
          have HAT' := HAT.out
          rw [hl5] at HAT'
          have HAT2 := Lib.hid HAT'
          clear sh5 f5 HAT' HAT
          go_wp2
          go_ret
          refine ⟨by rw [HS.out]; rfl, ?_⟩
          rw [HU.out, show cutE (S.E ++ [⟨txn, ts⟩]) = S.E ++ [⟨txn, ts⟩] from by unfold cutE; rw [hl5, if_neg hcut]]
          exact ⟨ok, _, SH5.out, ((Frm.of_below HW1.out (Mut p bk bq ev)).trans HFR.out (fun i _ e => .inr (.inr (.inl e)))).trans F5.out (fun _ _ e => e), fun _ h => .inl h, fun _ h => h, HAT2.out⟩
      · have d3 : ((stateOf S txn).1 == 1) = false := beq_eq_false_iff_ne.2 h4
        clear h1 h3 h4
        go_enter Try.func37, Try.ntmps37
        go_wp2_with (first | (go_at_call 33; refine hSt.mono ?_; rintro e w1 ⟨rfl, hb1⟩; obtain ⟨w2, hrun, sh2, fr2⟩ := (h.below hb1).del_prep hwf 0; have k1 := cell_blk (i := 1) (h.below hb1).blk rfl; have k2 := cell_blk (i := 2) (alloc_old (o := .cells #[.int .i64 txn, .int .i64 ts] 96 (0, 0)) sh2.blk) rfl; have k2' := cell_blk (i := 2) sh2.blk rfl; have HW1 := Lib.hid hb1; have HSH := Lib.hid sh2; have HFR := Lib.hid fr2; clear sh2 fr2 hb1) | (at_delete; refine wpList_delete_run rfl _ _ _ _ rfl rfl rfl hrun ?_) | (at_builtin; refine wpList_append_own_at _ rfl _ _ 76 rfl base 96 i0 (.agg #[.int .i64 0, .int .i64 0]) 2 16 Try.underlying76 hi hi0 hi1 hi2 rfl (by decide) _ S.E.length (S.E.flatMap encFin) rfl (own_move HSH.out.ends (fun k hk => (MapKept.heap_alloc w2 _).2 k (own_block_lt HSH.out.ends hk).2)) ⟨w2.heap.size, 0, none⟩ 1 1 [.int .i64 txn, .int .i64 ts] rfl ?qc1 ?qc2 ?qc3 ?qc4 ?qc5 ?qc6 ?_))
        case qc1 => rfl
        case qc2 =>
          intro j u hj
          match j, hj with
          | 0, hj => cases hj; exact cell_blk (i := 0) (alloc_blk rfl) rfl
          | 1, hj => cases hj; exact cell_blk (i := 1) (alloc_blk rfl) rfl
        case qc3 =>
          intro u hu
          rcases List.mem_cons.1 hu with rfl | hu
          · rfl
          · rcases List.mem_cons.1 hu with rfl | hu
            · rfl
            · cases hu
        case qc4 => unfold maxLen; omega
        case qc5 => omega
        case qc6 => have := HFR.out.size; have := HW1.out.size; simp; omega
        intro ev4 w4 hown' hgrow _ hat
        have fg : Frm (w2.alloc (.cells #[.int .i64 txn, .int .i64 ts] 96 (0, 0))) w4 (fun i => ev.ownBlock = some i) := ⟨hgrow.os, hgrow.tape, hgrow.output, hgrow.size, fun i hi hn => hgrow.block i hi (fun e => hn e.symm)⟩
        have f4 : Frm w2 w4 (fun i => ev.ownBlock = some i) := (Frm.of_below ((Below.refl w2.heap.size w2).alloc (Nat.le_refl _) _) (fun i => ev.ownBlock = some i)).trans fg (fun _ _ e => e)
        have hat5 : ∀ k, ev4.ownBlock = some k → ev.ownBlock = some k ∨ w.heap.size ≤ k := fun k hk => by
          rcases hat with h | h
          · exact .inl (h.symm.trans hk)
          · rw [h] at hk
            cases hk
            have := HFR.out.size
            have := HW1.out.size
            right
            omega
        have HAT := Lib.hid hat5
        clear hat5
        have ho4 : w4.ownsRow base 96 2 ev4 (S.E ++ [(⟨txn, ts⟩ : Fin2)]).length ((S.E ++ [(⟨txn, ts⟩ : Fin2)]).flatMap encFin) := by
          have e1 : (S.E ++ [(⟨txn, ts⟩ : Fin2)]).length = S.E.length + 1 := by simp
          have e2 : (S.E ++ [(⟨txn, ts⟩ : Fin2)]).flatMap encFin = S.E.flatMap encFin ++ [.int .i64 txn, .int .i64 ts] := by simp [encFin]
          rw [e1, e2]
          exact hown'
        obtain ⟨sh5, f5⟩ := HSH.out.set_ends f4 ho4 (fun k hk => by
          rcases hat with h | h
          · exact .inl (h.symm.trans hk)
          · rw [h] at hk
            cases hk
            right
            first | omega | (simp; done) | (simp; omega))
        obtain ⟨A5, c5, e5, hc5, hn5, s5⟩ := own_rdv ho4 len_encFin
        subst e5
        have hb4 := f4.obj HSH.out.blk (fun e => HSH.out.ev_p e)
        have m2 := cell_blk (i := 2) hb4 rfl
        have mf := frozen_blk (i := 2) hb4
        clear hown' hgrow hat f4 hb4 k1 k2 k2' hrun hSt
        have hl5 : (S.E ++ [(⟨txn, ts⟩ : Fin2)]).length = S.E.length + 1 := by simp
        by_cases hcut : 1024 < S.E.length + 1
        · have hE4 : S.E.length = 1024 := by omega
          obtain ⟨b5, off5, eA, _, hbl5, _⟩ := s5 (by simp)
          subst eA
          have hrd := own_rd sh5.ends len_encFin
          obtain ⟨A6, c6, e6, hc6, s6⟩ := hrd
          rw [hl5] at sh5 f5 e6 hc6
          cases e6
          have hQ := clone_fin _ (some ⟨b5, off5 + 1 * 2, none⟩) (c5 - 1) ((S.E ++ [(⟨txn, ts⟩ : Fin2)]).drop 1) _ (s6.dropK 1) (by simp; omega)
          have hdl : ((S.E ++ [(⟨txn, ts⟩ : Fin2)]).drop 1).length = S.E.length := by simp
          rw [hdl, hl5] at hQ
          have hc1 : (1024 : Int) < (S.E.length : Int) + 1 := by omega
          have dc : ¬ c5 = 1 := by omega
          have dc1 : 1 ≤ c5 := by omega
          have SH5 := Lib.hid sh5
          have F5 := Lib.hid f5
          have HAT' := HAT.out
          rw [hl5] at HAT'
          have HAT2 := Lib.hid HAT'
          rw [Nat.one_mul] at hQ
          clear sh5 f5 HAT' HAT s5 s6 hE4
          go_wp2_with (go_at_call 46; refine hQ.mono ?_; rintro e w6 ⟨v6, rfl, ho6, hb6⟩; obtain ⟨A7, c7, e7, _, _⟩ := own_rd (by rw [hdl]; exact ho6 : World.ownsRow _ _ _ _ v6 ((S.E ++ [(⟨txn, ts⟩ : Fin2)]).drop 1).length _) len_encFin; rw [hdl] at e7; subst e7; have pb := cellsLater hb6 SH5.out.blk; have pm := cell_blk (i := 2) pb rfl; have pf := frozen_blk (i := 2) pb)
          go_ret
          refine ⟨by rw [HS.out]; rfl, ?_⟩
          rw [HU.out, show cutE (S.E ++ [(⟨txn, ts⟩ : Fin2)]) = (S.E ++ [(⟨txn, ts⟩ : Fin2)]).drop 1 from by unfold cutE; rw [hl5, if_pos hcut]]
          obtain ⟨sh7, f7⟩ := SH5.out.set_ends (E1 := (S.E ++ [(⟨txn, ts⟩ : Fin2)]).drop 1) (Frm.of_below hb6 _) (by rw [hdl]; exact own_lower ho6 (by have := HFR.out.size; have := HW1.out.size; have := F5.out.size; omega)) (fun k hk => .inr (own_block_lt ho6 hk).1)
          exact Turned.next ((Frm.of_below HW1.out (Mut p bk bq ev)).trans HFR.out (fun i _ e => .inr (.inr (.inl e))) |>.trans F5.out (fun _ _ e => e)) (fun _ h => .inl h) (fun _ h => h) HAT2.out sh7 f7 (fun _ h => .inl h) (fun _ h => h) (fun k hk => .inr (own_block_lt ho6 hk).1)
        · rw [hl5] at sh5 f5
          have hc1 : ¬ (1024 : Int) < (S.E.length : Int) + 1 := by omega
          have SH5 := Lib.hid sh5
          have F5 := Lib.hid f5
          have HAT' := HAT.out
          rw [hl5] at HAT'
          have HAT2 := Lib.hid HAT'
          clear sh5 f5 HAT' HAT
          go_wp2
          go_ret
          refine ⟨by rw [HS.out]; rfl, ?_⟩
          rw [HU.out, show cutE (S.E ++ [⟨txn, ts⟩]) = S.E ++ [⟨txn, ts⟩] from by unfold cutE; rw [hl5, if_neg hcut]]
          exact ⟨ok, _, SH5.out, ((Frm.of_below HW1.out (Mut p bk bq ev)).trans HFR.out (fun i _ e => .inr (.inr (.inl e)))).trans F5.out (fun _ _ e => e), fun _ h => .inl h, fun _ h => h, HAT2.out⟩
end Go.Proofs.Ytokfbikiicfafaa
