/- shelf.sweep. -/
import Derived.Test.YtokfbikiicfafaaSz
namespace Go.Proofs.Ytokfbikiicfafaa
open Go.RowKit Go.Maps
open Go.WideElems (Fit rd rg pl rd_key rd_mk rd_val rg_of other_key rd_stay)
set_option linter.unusedVariables false

theorem ranges_R {H : Type} {P : Program} {k : TypeId} {R R' : Value → Option (DataW H × List MemPlace)} {w : World} {b r n : Nat} {D : DataW H} {left : Lit → Bool} {cnt : Nat} (h : w.ranges P k R b r n D left cnt) (hs : ∀ v z, R v = some z → R' v = some z) : w.ranges P k R' b r n D left cnt := by
  obtain ⟨es, clock, since, seen, c0, hb, F, hsz, rfl, hr, hold, hcnt, hl1, hl2, hsc, hsk⟩ := h
  obtain ⟨F1, hmap, _⟩ := F.stay (R' := R') (fun x _ z hz => hs _ _ hz)
  have same : ∀ x ∈ es.toList, rg P k R' x = rg P k R x := fun x hx => by
    obtain ⟨y, hy⟩ := F.reads x hx
    have hy' := rd_stay (hs x.val) hy
    rw [rg_of hy, rg_of hy']
  exact ⟨es, clock, since, seen, c0, hb, F1, hsz, by rw [hmap], hr, hold, hcnt, fun x hx => by rw [same x hx]; exact hl1 x hx, fun kl hk => by
    obtain ⟨x, hx, e⟩ := hl2 kl hk
    exact ⟨x, hx, by rw [same x hx]; exact e⟩, hsc, hsk⟩

set_option maxHeartbeats 4000000 in
set_option maxRecDepth 100000 in
theorem sweep_any {base : Nat} {ok : Nat → Prop} {p bk bq : Nat} {ev : Value} {S : ShS} (t : Int) (w : World) (h : ShAt w base ok p bk bq ev S) (hch : ∀ kl, Maps.has S.K kl = true → lstAt S.K kl ≠ [] ∧ ChainOk (lstAt S.K kl)) :
    Calls Try.prog 38 #[.pointer (some ⟨p, 0, none⟩), .int .i64 t] w fun e w' => e = .returned (.int .i64 (sweepCode S t)) ∧ Turned w w' base ok p bk bq ev (sweepS S t) := by
  have c0 := cell_blk (i := 0) (u := .map (some bk)) h.blk rfl
  have c3 := cell_blk (i := 3) (u := .int .i64 S.over) h.blk rfl
  have f3 := frozen_blk (i := 3) h.blk
  by_cases hlt : t < S.over
  · have HS := Lib.hid (show sweepCode S t = 110 by unfold sweepCode; rw [if_pos hlt])
    have HU := Lib.hid (show sweepS S t = S by unfold sweepS; rw [if_pos hlt])
    have HT := Lib.hid (Turned.refl h (Below.refl _ _))
    clear h
    go_enter Try.func38, Try.ntmps38
    go_wp2
    go_ret
    exact ⟨by rw [HS.out]; rfl, by rw [HU.out]; exact HT.out⟩
  · have HS := Lib.hid (show sweepCode S t = 0 by unfold sweepCode; rw [if_neg hlt])
    have HU := Lib.hid (show sweepS S t = { S with K := sweepK S.K t, over := t } by unfold sweepS; rw [if_neg hlt])
    have sh1 := h.set_over t
    have fr1 := Frm.setCell w ⟨p, 3, none⟩ (.int .i64 t)
    have hK := sh1.keys
    have HA := Lib.hid (own_heldAll sh1.keys lawS)
    have HCN := Lib.hid (sh1.keys.canon lawS)
    have HCH := Lib.hid hch
    have hzw : (w.setCell ⟨p, 3, none⟩ (.int .i64 t)).heap.size = w.heap.size := by simp
    have HZW := Lib.hid hzw
    have hbk := h.keys.lt
    have hpb := h.p_bk
    have H1 := Lib.hid sh1
    have HF1 := Lib.hid fr1
    have H := Lib.hid h
    clear h hch sh1 fr1 hzw
    go_enter Try.func38, Try.ntmps38
    go_wp2_with (first
      | (at_range; refine wpList_range_own _ rfl _ 74 rfl 9 81 lawS Try.underlying74 _ bk _ _ rfl hK ?_; intro w1 hrg0 hg0 hs0))
    rw [HZW.out] at hrg0 hs0
    generalize w.setCell ⟨p, 3, none⟩ (.int .i64 t) = ws at hrg0 hg0 HZW H1 HF1 hK
    have f0 : Frm ws w1 (fun i => i = bk) := ⟨hg0.os, hg0.tape, hg0.output, hg0.size, fun i hi _ => hg0.block i hi (by simp)⟩
    have hok1 : ∀ b, ok b → b < w1.heap.size := fun b hb => by have := H.out.ok_lt b hb; omega
    have hs0' := Lib.hid hs0
    clear hs0
    go_loopw [22] (fun _ wr => ∃ left cnt E okr, wr.ranges Try.prog 9 (RdK wr okr) bk w.heap.size (Maps.size S.K) E left cnt ∧ Aside (Frm ws wr (fun i => i = bk)) ∧ Aside ((∀ b, ok b → okr b) ∧ (∀ b, okr b → ok b ∨ w.heap.size < b) ∧ (∀ b, okr b → b < wr.heap.size)) ∧ Aside (∀ kl, Maps.has E kl = Maps.has S.K kl) ∧ Aside (∀ kl, Maps.has S.K kl = true → ∀ z, E.atKey kl z = .held (if left kl then lstAt S.K kl else sweepTs (lstAt S.K kl) t)))
      (fun _ wr => wr.rangeLeft bk w.heap.size)
    case atStart =>
      refine ⟨_, _, _, ok, ranges_R hrg0 (RdK_move (fun b hb hl => f0.block b hl (fun e => H.out.bk_no (by rw [← show b = bk from e]; exact hb))) f0.size (fun _ h _ => h)), f0, (show Aside _ from ⟨fun _ h => h, fun _ h => .inl h, hok1⟩), (show Aside _ from fun _ => rfl), (show Aside _ from fun kl hk z => ?_)⟩
      rw [if_pos hk]
      exact HA.out kl hk z
    case round =>
      obtain ⟨left, cnt, E, okr, hrg, FW, FO, F1, F2⟩ := hrel
      go_wp2_with (first
        | (at_next; refine wpList_next_ranges _ rfl _ rfl 9 lawS (RdK wr okr) Value.string (fun v : Value => v) (fun kk kl hk => by obtain ⟨x, hx, _⟩ := keyOf_string_inv Try.underlying9 hk; exact ⟨x, hx⟩) (fun v y _ => ⟨v, rfl⟩) bk w.heap.size (Maps.size S.K) E left cnt rfl hrg ?_ ?_))
      · intro hc0 hl0
        have hp2 := FW.out.obj H1.out.blk (fun e => hpb e)
        have k0 := cell_blk (i := 0) (u := .map (some bk)) hp2 rfl
        have hat : ∀ kl, Maps.has S.K kl = true → ∀ z, E.atKey kl z = .held (sweepTs (lstAt S.K kl) t) := fun kl hk z => by rw [F2.out kl hk z, hl0 kl]; rfl
        have hls : ∀ kl, Maps.has S.K kl = true → lstAt E kl = sweepTs (lstAt S.K kl) t := fun kl hk => by unfold lstAt; rw [hat kl hk]; rfl
        have hDel := fun (W : World) (hW : Below wr.heap.size wr W) => delfunc_any W (World.ownsMap.kept (row := none) hrg.owns ⟨hW.os, hW.tape, hW.output, hW.size, fun i hi _ => hW.block i hi⟩ (by simp)) (fun kl hk => by
          rw [F1.out kl] at hk
          rw [hls kl hk]
          have := (HCH.out kl hk).2.len
          unfold sweepTs
          rw [List.length_drop]
          omega)
        have hfin : Hid (∀ (wf : World) (D2 : DataW (List Ver)), wf.ownsMap Try.prog 9 (RdK wr okr) bk (Maps.size S.K) D2 → Frm wr wf (fun i => i = bk) → (∀ kl, Maps.has D2 kl = (Maps.has E kl && !(lstAt E kl).isEmpty)) → (∀ kl, Maps.has D2 kl = true → ∀ z, D2.atKey kl z = .held (lstAt E kl)) → Turned w wf base ok p bk bq ev { S with K := sweepK S.K t, over := t }) := fun wf D2 hown hf hh ha => by
          have s1 := sweepK_canon HCN.out t
          obtain ⟨s2, s3⟩ := sweepK_spec (Canon.keysOk HCN.out) t
          have hE1 : ∀ kl, Maps.has D2 kl = (Maps.has S.K kl && !(sweepTs (lstAt S.K kl) t).isEmpty) := fun kl => by
            rw [hh kl, F1.out kl]
            cases hk : Maps.has S.K kl with
            | false => rfl
            | true => rw [hls kl hk]
          have eD : D2 = sweepK S.K t := by
            refine Maps.ext (hown.canon lawS) s1 (fun kl => by rw [hE1 kl, s2 kl]) (fun kl z hk => ?_)
            have hk' := hk
            rw [hE1 kl, ← s2 kl] at hk'
            rw [s3 kl hk' z, ha kl hk z]
            have hkS : Maps.has S.K kl = true := by
              have := hE1 kl
              rw [hk] at this
              cases hs : Maps.has S.K kl with
              | true => rfl
              | false => rw [hs] at this; cases this
            rw [hls kl hkS]
          subst eD
          have hrok : ∀ b, okr b → b ≠ bk := fun b hb e => by
            rcases FO.out.2.1 b hb with h1 | h1
            · subst e; exact H.out.bk_no h1
            · omega
          have sh := H1.out.set_keys (ok1 := okr) (FW.out.trans hf (fun _ _ e => e)) FO.out.1 (fun b hb => (FO.out.2.1 b hb).imp id (fun h1 => by rw [HZW.out]; omega)) (fun b hb => Nat.lt_of_lt_of_le (FO.out.2.2 b hb) hf.size)
            (ownsMap_move hown rfl (RdK_move (fun b hb hl => hf.block b hl (fun e => hrok b hb e)) hf.size (fun _ h _ => h)))
          have ft := (HF1.out.mono (T := fun i => i = p ∨ i = bk) (fun i _ e => .inl e)).trans (FW.out.trans hf (fun _ _ e => e)) (fun i _ e => .inr e)
          exact ⟨okr, ev, sh, ft.mono (fun i _ e => e.elim .inl (fun e => .inr (.inl e))), fun b hb => (FO.out.2.1 b hb).imp id (fun h1 => by omega), FO.out.1, fun _ h => .inl h⟩
        clear hat hls FW FO F1 F2 hl0 hrg hp2 hK
        go_wp2_with (go_at_call 81; refine (hDel _ (Below.refl _ _)).mono ?_; rintro e wf ⟨rfl, D2, e1, e2, e3, e4⟩; have HT := Lib.hid (hfin.out wf D2 e1 e2 e3 e4); clear e1 e2 e3 e4)
        go_ret
        exact ⟨by rw [HS.out]; rfl, by rw [HU.out]; exact HT.out⟩
      · intro x v kl yd yp w2 cnt2 hkey hlk hv hat hrg2 hlt2 hg2 hs2 hen
        obtain ⟨l, ⟨A, c, ev', hlc, _, hz⟩, ez⟩ := RdK_inv hv
        obtain ⟨rfl, rfl⟩ := Prod.mk.inj ez
        subst ev'
        have hSl : Maps.has S.K kl = true := by rw [← F1.out kl]; exact Maps.has_true_of_atKey hat
        have el : lstAt S.K kl = l := by
          have := (F2.out kl hSl .nil).symm.trans (hat .nil)
          rw [if_pos hlk] at this
          cases this
          rfl
        obtain ⟨hne, hco⟩ := HCH.out kl hSl
        rw [el] at hne hco
        have hrok : ∀ b, okr b → b ≠ w.heap.size := fun b hb e => by
          rcases FO.out.2.1 b hb with h1 | h1
          · have := H.out.ok_lt b h1; omega
          · omega
        have hbok : ∀ b, okr b → b ≠ bk := fun b hb e => by
          rcases FO.out.2.1 b hb with h1 | h1
          · subst e; exact H.out.bk_no h1
          · omega
        have hm2 : ∀ b, okr b → b < wr.heap.size → w2.heap[b]? = wr.heap[b]? := fun b hb hl => hg2.block b hl (fun e => hrok b hb (by cases e; rfl))
        have hz2 : RdSl 3 encVer w2 okr A l := hz.move hm2 hg2.size (fun _ h _ => h)
        have hSw := fun (W : World) (hW : Below w2.heap.size w2 W) => sweep_ver okr A c l t W hlc (hz2.below hW) hco hne
        have ff : Frm ws w2 (fun i => i = bk) := FW.out.trans (T := fun i => i = w.heap.size) ⟨hg2.os, hg2.tape, hg2.output, hg2.size, fun i hi hn => hg2.block i hi (fun e => hn (by cases e; rfl))⟩ (fun i hi e => by rw [HZW.out] at hi; have : i = w.heap.size := e; omega)
        have hp2 := ff.obj H1.out.blk (fun e => hpb e)
        have k0 := cell_blk (i := 0) (u := .map (some bk)) hp2 rfl
        have hbs : bk < w2.heap.size := hrg2.owns.lt
        have hEk : Maps.has E kl = true := Maps.has_true_of_atKey hat
        have hPut := fun (W : World) (hW : Below w2.heap.size w2 W) (v : Value) (hv : RdV 3 encVer W (fun b => okr b ∨ (w2.heap.size ≤ b ∧ b < W.heap.size)) v (sweepTs l t)) =>
          (show ∃ w5, (Instr.mapUpdate 74 (.map (some bk)) (.string x) v).run Try.prog W = .ok () w5 ∧ w5.ranges Try.prog 9 (RdK w5 (fun b => okr b ∨ (w2.heap.size ≤ b ∧ b < W.heap.size))) bk w.heap.size (Maps.size S.K) (E.put kl (.held (sweepTs l t))) (fun z => left z && !z.sameKey kl) cnt2 ∧ Frm W w5 (fun i => i = bk) from by
            obtain ⟨w5, hrun, hr5, ht5⟩ := ranges_put (R' := RdK W (fun b => okr b ∨ (w2.heap.size ≤ b ∧ b < W.heap.size))) (ranges_below hrg2 hW) lawS Try.underlying74 (RdK_move (fun b hb hl => (hW.block b (Nat.lt_of_lt_of_le hl hg2.size)).trans (hm2 b hb hl)) (Nat.le_trans hg2.size hW.size) (fun b hb _ => .inl hb)) hkey (RdK_mk hv) hEk
            have f5 := Frm.of_turned ht5
            exact ⟨w5, hrun, ranges_R hr5 (RdK_move (fun b hb hl => f5.block b hl (fun e => hb.elim (fun h1 => hbok b h1 e) (fun h1 => by have : b = bk := e; omega))) f5.size (fun _ h _ => h)), f5⟩)
        have hcnt := Lib.hid hrg.left_eq
        have hE5 : Hid (∀ kl2, Maps.has (E.put kl (.held (sweepTs l t))) kl2 = Maps.has S.K kl2) := fun kl2 => by
          by_cases e : kl2 = kl
          · subst e
            obtain ⟨es, rfl, _, hk⟩ := hrg.owns.canon lawS
            obtain ⟨en, hen, rfl, _⟩ := at_entry hEk
            rw [Maps.has_put_same ⟨es, rfl⟩ (hk en hen), hSl]
          · rw [Maps.has_put_other e, F1.out kl2]
        have hA5 : Hid (∀ kl2, Maps.has S.K kl2 = true → ∀ z, (E.put kl (.held (sweepTs l t))).atKey kl2 z = .held (if (left kl2 && !kl2.sameKey kl) = true then lstAt S.K kl2 else sweepTs (lstAt S.K kl2) t)) := fun kl2 hk2 z => by
          by_cases e : kl2 = kl
          · subst e
            obtain ⟨es, rfl, _, hk⟩ := hrg.owns.canon lawS
            obtain ⟨en, hen, rfl, _⟩ := at_entry hEk
            rw [Maps.atKey_put_same ⟨es, rfl⟩ (hk en hen), WideAt.sameKey_self (hk en hen), el]
            simp
          · rw [Maps.atKey_put_other e, F2.out kl2 hk2 z, Maps.sameKey_ne e]
            simp
        have FF := Lib.hid ff
        have FO2 := Lib.hid FO.out
        have hsz2 := Lib.hid hs2
        have hrl : w.heap.size < w2.heap.size := by
          have h1 := hrg.lt
          have h2 := hg2.size
          omega
        clear hrg F1 F2 FO FW hv hlk hat hg2 hEk hSl el hne hco hrok hbok hm2 hz2 hz ff hkey hs2 hrg2 hs0' hg0 hK HF1
        go_wp2
        go_region_held3 (fun W => W.cell? ⟨p, 0, none⟩ = some (.map (some bk))) (go_keep)
          (first
            | (go_at_call 80; refine (hSw _ ?_).mono ?_; (exact (Below.refl w2.heap.size w2).drew); rintro e w4 ⟨u, rfl, ho, hb4⟩; have hw4 := Lib.hid (below_thru (Below.refl w2.heap.size w2).drew hb4); have hr4 := own_rdv ho len_encVer; obtain ⟨Bu, du, eu, hu1, hu2, hu3⟩ := hr4; subst eu; obtain ⟨w5, hrun, hr5, hf5⟩ := hPut w4 hw4.out _ ⟨Bu, du, rfl, hu1, hu2, hu3.move (fun _ _ _ => rfl) (Nat.le_refl _) (fun b hb hbl => .inr ⟨(own_block_lt ho hb).1, hbl⟩)⟩; have y2 := cellsLater hb4 (show w2.drew.heap[p]? = _ from hp2); have a3 := cell_blk (i := 0) (u := .map (some bk)) y2 rfl; have z2 := hf5.obj y2 (fun e => hpb e); have b3 := cell_blk (i := 0) (u := .map (some bk)) z2 rfl; have HF := Lib.hid hf5; have HR5 := Lib.hid hr5; clear hf5 hr5 ho hu3))
        all_goals
          go_wp2
          go_roundw
          case rel =>
            refine ⟨_, cnt2, _, _, HR5.out, FF.out.trans ((Frm.of_below hw4.out _).trans HF.out (fun _ _ e => e)) (fun _ _ e => e), (show Aside _ from ⟨fun b hb => .inl (FO2.out.1 b hb), fun b hb => hb.elim (fun h1 => FO2.out.2.1 b h1) (fun h1 => .inr (by omega)), fun b hb => ?_⟩), (show Aside _ from hE5.out), (show Aside _ from hA5.out)⟩
            have h1 := HF.out.size
            have h2 := hw4.out.size
            rcases hb with hb | hb
            · have := FO2.out.2.2 b hb
              have := hsz2.out
              omega
            · omega
          case measure => rw [HR5.out.left_eq, hcnt.out]; exact hlt2
end Go.Proofs.Ytokfbikiicfafaa
