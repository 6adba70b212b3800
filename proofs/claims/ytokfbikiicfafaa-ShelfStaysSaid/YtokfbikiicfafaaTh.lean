/- The walk of corncriblaw12.ShelfStays. -/
import Derived.Test.YtokfbikiicfafaaTg
namespace Go.Proofs.Ytokfbikiicfafaa
open Go.RowKit Go.Maps
set_option linter.unusedVariables false

set_option maxHeartbeats 8000000 in
set_option maxRecDepth 100000 in
theorem shelfStays_any (okA : Nat → Prop) (A C : Option Addr) (c1 c2 : Nat) (rs more : List Rec) (key : ByteArray) (t : Int) (w : World) (hz : RdRecs w okA A rs) (hz2 : RdRecs w okA C more) (hsm : SmallRs rs) (hsm2 : SmallRs more) (hlen : rs.length ≤ 9223372036854775807) (hlen2 : more.length ≤ 9223372036854775807) (hk : key.size ≤ maxLen) :
    Calls Try.prog 3 #[.slice A rs.length c1, .agg #[.string key, .int .i64 t], .slice C more.length c2] w fun e w' => e = .returned (.bool true) ∧ Below w.heap.size w w' := by
  have hM := fun (W : World) (hW : Below w.heap.size w W) => made_any okA A c1 rs W (hz.below hW) hsm hlen
  have HZ2 := Lib.hid hz2
  have HS2 := Lib.hid hsm2
  have HK := Lib.hid hk
  clear hz hz2 hsm hsm2 hk
  go_enter Try.func3, Try.ntmps3
  go_wp2
  go_quiet (fail)
  have hb0 := Lib.hid (below_drewN ((Below.refl w.heap.size w).alloc (Nat.le_refl _) (.cells #[.string key, .int .i64 t] 24)) nq)
  go_wp2_with fail
  refine (hM _ hb0.out).mono ?_
  rintro e w1 ⟨hb1, p, bk, bq, ev, ok, rfl, sh1, _⟩
  obtain ⟨base, hbase, SH1⟩ : ∃ base, w.heap.size ≤ base ∧ Hid (ShAt w1 base ok p bk bq ev (madeS rs)) := ⟨_, hb0.out.size, Lib.hid sh1⟩
  have HB1 := Lib.hid (below_thru hb0.out hb1)
  clear hb1 sh1 hM
  go_wp2_with fail
  refine (works_any _).mono ?_
  rintro e w2 ⟨rfl, hb2⟩
  have HB2 := Lib.hid (below_thru HB1.out hb2)
  have SH2 := Lib.hid (SH1.out.below hb2)
  clear hb2
  go_wp2_with fail
  have hS0 := Lib.hid (madeS_ok rs)
  obtain ⟨c, v, hcv⟩ : ∃ c v, readOf (madeS rs) key t = (c, v) := ⟨_, _, rfl⟩
  have hR := read_any key t w2 SH2.out HK.out (hS0.out.kc.chain _) hS0.out.small
  rw [hcv] at hR
  have HCV := Lib.hid hcv
  clear hcv
  refine hR.mono ?_
  clear hR
  rintro e w3 ⟨rfl, hb3⟩
  unfold verAgg
  have HB3 := Lib.hid (below_thru HB2.out hb3)
  have SH3 := Lib.hid (SH2.out.below hb3)
  have hp3 : Hid (p < w3.heap.size ∧ bk < w3.heap.size ∧ bq < w3.heap.size ∧ ∀ k, ev.ownBlock = some k → k < w3.heap.size) := ⟨(SH3.out.mut_ge (.inl rfl)).2, SH3.out.keys.lt, SH3.out.preps.lt, fun k hk => (own_block_lt SH3.out.ends hk).2⟩
  clear hb3
  by_cases e3 : c = 3
  · have d3 : (c == 3) = true := beq_iff_eq.2 e3
    have HZ := Lib.hid (HB3.out.alloc HB3.out.size (.cells #[.int .i64 v.ts, .string v.sh, .bool v.dead] 29))
    clear e3
    go_wp2
    go_ret
    exact ⟨rfl, HZ.out⟩
  have d3 : (c == 3) = false := beq_eq_false_iff_ne.2 e3
  by_cases e4 : c = 4
  · have d4 : (c == 4) = true := beq_iff_eq.2 e4
    have HZ := Lib.hid (HB3.out.alloc HB3.out.size (.cells #[.int .i64 v.ts, .string v.sh, .bool v.dead] 29))
    clear e4 e3
    go_wp2
    go_ret
    exact ⟨rfl, HZ.out⟩
  have d4 : (c == 4) = false := beq_eq_false_iff_ne.2 e4
  by_cases e5 : t < 0
  · have HZ := Lib.hid (HB3.out.alloc HB3.out.size (.cells #[.int .i64 v.ts, .string v.sh, .bool v.dead] 29))
    clear e4 e3
    go_wp2
    go_ret
    exact ⟨rfl, HZ.out⟩
  by_cases e6 : 1125899906842624 < t
  · have HZ := Lib.hid (HB3.out.alloc HB3.out.size (.cells #[.int .i64 v.ts, .string v.sh, .bool v.dead] 29))
    clear e4 e3
    go_wp2
    go_ret
    exact ⟨rfl, HZ.out⟩
  have HIN : Hid (StaysInv (madeS rs) key t (c, v)) := by
    have := stays_start (S := madeS rs) (key := key) (t := t) (by rw [HCV.out]; exact e3) (by rw [HCV.out]; exact e4)
    rw [HCV.out] at this
    exact this
  have E3 := Lib.hid e3
  have E4 := Lib.hid e4
  clear e3 e4
  go_wp2
  go_loopg [12] more.length (fun gg s12 wr => ∃ kk : Nat, kk ≤ more.length ∧ more.length - kk ≤ gg ∧ s12 = .int .i64 kk ∧ Aside (wr.heap[w3.heap.size]? = some (.cells #[.int .i64 v.ts, .string v.sh, .bool v.dead] 29 (0, 0))) ∧ Aside (Below w.heap.size w wr ∧ ∃ ev' ok' S, ShAt wr base ok' p bk bq ev' S ∧ StOk S ∧ StaysInv S key t (c, v) ∧ ev'.ownBlock ≠ some w3.heap.size))
  case atStart =>
    refine ⟨0, Nat.zero_le _, by omega, rfl, alloc_blk rfl, (show Aside _ from ⟨HB3.out.alloc HB3.out.size _, ev, ok, _, SH3.out.below ((Below.refl _ _).alloc (Nat.le_refl _) _), hS0.out, HIN.out, fun e => ?_⟩)⟩
    exact absurd (hp3.out.2.2.2 _ e) (Nat.lt_irrefl _)
  case round =>
    obtain ⟨kk, hkk, hg, rfl, BX, F⟩ := hrel
    by_cases hlt : kk < more.length
    · have hltz : (kk : Int) < (more.length : Int) := by omega
      by_cases h6 : kk < 60
      · have h6z : (kk : Int) < 60 := by omega
        obtain ⟨r, hr⟩ : ∃ r, more[kk]? = some r := ⟨_, List.getElem?_eq_getElem hlt⟩
        obtain ⟨BW, ev', ok', S, sh, hS, hin, hne⟩ := F.out
        obtain ⟨b, off, e, _, _, hc⟩ := HZ2.out.below BW (by intro h; simp [h] at hlt)
        subst e
        obtain ⟨v7, v8, hcell, ⟨A7, c7, e7, _, _, s7⟩, ⟨A8, c8, e8, _, _, s8⟩⟩ := hc kk r hr
        subst e7
        subst e8
        obtain ⟨hb1', hb2'⟩ := HS2.out r (List.mem_of_getElem? hr)
        have hbw : base ≤ wr.heap.size := by have := sh.mut_ge (.inl rfl); omega
        have hA := fun (W : World) (hW : Below wr.heap.size wr W) => apply_any A7 A8 c7 c8 r W (sh.below hW) hS (s7.below hW) (s8.below hW) hb1' hb2' (Nat.le_trans hbw hW.size)
        have l0 := hcell 0 _ rfl
        have l1 := hcell 1 _ rfl
        have l2 := hcell 2 _ rfl
        have l3 := hcell 3 _ rfl
        have l4 := hcell 4 _ rfl
        have l5 := hcell 5 _ rfl
        have l6 := hcell 6 _ rfl
        have l7 := hcell 7 _ rfl
        have l8 := hcell 8 _ rfl
        rw [Nat.add_zero] at l0
        have D := Lib.hid (And.intro BW (And.intro sh (And.intro hS (And.intro hin hne))))
        have HBX := Lib.hid BX.out
        clear hc hcell hr F BW sh hS hin hne s7 s8 BX
        have HW0 := (Below.refl wr.heap.size wr).alloc (Nat.le_refl _) (.cells #[.int .i64 r.kind, .int .i64 r.txn, .int .i64 r.ts, .int .i64 r.coord, .string r.key, .string r.text, .bool r.dead, .slice A7 r.keys.length c7, .slice A8 r.writes.length c8] 35 (0, 0))
        have y0 : (wr.alloc (.cells #[.int .i64 r.kind, .int .i64 r.txn, .int .i64 r.ts, .int .i64 r.coord, .string r.key, .string r.text, .bool r.dead, .slice A7 r.keys.length c7, .slice A8 r.writes.length c8] 35 (0, 0))).heap[wr.heap.size]? = _ := alloc_blk rfl
        go_upto_region 12 with (fail)
        generalize wr.alloc (.cells #[.int .i64 r.kind, .int .i64 r.txn, .int .i64 r.ts, .int .i64 r.coord, .string r.key, .string r.text, .bool r.dead, .slice A7 r.keys.length c7, .slice A8 r.writes.length c8] 35 (0, 0)) = W0 at HW0 y0 ⊢
        have HW := Lib.hid HW0
        clear HW0
        go_cut [93] (fun s93 wc => s93 = .bool (skipB r t) ∧ W0 = wc)
        case first =>
          have j0 := cell_blk (i := 0) y0 rfl
          have j2 := cell_blk (i := 2) y0 rfl
          clear l0 l1 l2 l3 l4 l5 l6 l7 l8
          go_wp2
          all_goals
            go_meet
            refine ⟨congrArg Value.bool ?_, rfl⟩
            unfold skipB
            simp only [bne, show ∀ a b : Int, (a == b) = decide (a = b) from fun _ _ => rfl]
            simp [*]
        case rest =>
          obtain ⟨rfl, rfl⟩ := hcut
          have HY0 := Lib.hid y0
          cases hsk : skipB r t with
          | true =>
            clear hA y0 hsk l0 l1 l2 l3 l4 l5 l6 l7 l8
            go_wp2
            go_roundg (more.length - (kk + 1))
            case measure => omega
            case rel =>
              obtain ⟨BW, sh, hS, hin, hne⟩ := D.out
              exact ⟨kk + 1, by omega, by omega, by go_num, cellsLater HW.out HBX.out, (show Aside _ from ⟨below_thru BW HW.out, ev', ok', S, sh.below HW.out, hS, hin, hne⟩)⟩
          | false =>
            have HSK := Lib.hid hsk
            have hA0 := hA _ HW.out
            have j0 := cell_blk (i := 0) y0 rfl
            have j1 := cell_blk (i := 1) y0 rfl
            have j2 := cell_blk (i := 2) y0 rfl
            have j3 := cell_blk (i := 3) y0 rfl
            have j4 := cell_blk (i := 4) y0 rfl
            have j5 := cell_blk (i := 5) y0 rfl
            have j6 := cell_blk (i := 6) y0 rfl
            have j7 := cell_blk (i := 7) y0 rfl
            have j8 := cell_blk (i := 8) y0 rfl
            clear hA y0 l0 l1 l2 l3 l4 l5 l6 l7 l8
            go_wp2_with fail
            refine hA0.mono ?_
            rintro e w4 ⟨rfl, hT⟩
            obtain ⟨BW, sh, hS, hin, hne⟩ := D.out
            have hB4 := Lib.hid (below_of_turned (below_thru BW HW.out) (sh.below HW.out) hbase hT)
            have hge3 : w3.heap.size < wr.heap.size := (Array.getElem?_eq_some_iff.1 HBX.out).1
            have hS4 := Lib.hid (hS.apply r)
            have hin4 := Lib.hid (stays_step hS hin HSK.out)
            obtain ⟨ok4, ev4, sh4, f4, _, _, i4⟩ := hT
            have hBX4 := Lib.hid (f4.obj (cellsLater HW.out HBX.out) (fun e => by
              rcases e with e | e | e | e
              · exact absurd hp3.out.1 (by omega)
              · exact absurd hp3.out.2.1 (by omega)
              · exact absurd hp3.out.2.2.1 (by omega)
              · exact hne e))
            have hne4 : Hid (ev4.ownBlock ≠ some w3.heap.size) := fun e => by
              rcases i4 _ e with h | h
              · exact hne h
              · have := HW.out.size; omega
            have SH4 := Lib.hid sh4
            clear sh4 f4 i4 hA0 sh hS hin hne BW j0 j1 j2 j3 j4 j5 j6 j7 j8
            go_wp2_with fail
            have hR4 := read_any key t w4 SH4.out HK.out (hS4.out.kc.chain _) hS4.out.small
            have hcase := stays_read hin4.out
            obtain ⟨c4, v4, hcv4⟩ : ∃ c4 v4, readOf (applyS S r) key t = (c4, v4) := ⟨_, _, rfl⟩
            rw [hcv4] at hR4 hcase
            unfold verAgg at hR4
            simp only at hR4 hcase
            clear hcv4
            have hfin : ∀ w5 : World, Below w4.heap.size w4 w5 → Hid (∀ o : Obj, (w5.alloc o).heap[w3.heap.size]? = some (.cells #[.int .i64 v.ts, .string v.sh, .bool v.dead] 29 (0, 0)) ∧ Below w.heap.size w (w5.alloc o) ∧ ∃ ev' ok' S, ShAt (w5.alloc o) base ok' p bk bq ev' S ∧ StOk S ∧ StaysInv S key t (c, v) ∧ ev'.ownBlock ≠ some w3.heap.size) := fun w5 hb5 o => by
              have hb6 : Below w4.heap.size w4 (w5.alloc o) := hb5.alloc hb5.size _
              exact ⟨cellsLater hb6 hBX4.out, below_thru hB4.out hb6, ev4, ok4, _, SH4.out.below hb6, hS4.out, hin4.out, hne4.out⟩
            rcases hcase with q3 | ⟨q3, q2, q0⟩ | ⟨q3, qe⟩
            · subst q3
              refine hR4.mono ?_
              clear hR4
              rintro e w5 ⟨rfl, hb5⟩
              have HF5 := hfin w5 hb5
              clear hfin hb5
              go_wp2
              go_roundg (more.length - (kk + 1))
              case measure => omega
              case rel => exact ⟨kk + 1, by omega, by omega, by go_num, (HF5.out _).1, (show Aside _ from (HF5.out _).2)⟩
            · subst q2
              subst q0
              refine hR4.mono ?_
              clear hR4 q3
              rintro e w5 ⟨rfl, hb5⟩
              have HF5 := hfin w5 hb5
              clear hfin hb5
              go_wp2
              go_roundg (more.length - (kk + 1))
              case measure => omega
              case rel => exact ⟨kk + 1, by omega, by omega, by go_num, (HF5.out _).1, (show Aside _ from (HF5.out _).2)⟩
            · obtain ⟨rfl, rfl⟩ := Prod.mk.inj qe
              refine hR4.mono ?_
              clear hR4 qe
              rintro e w5 ⟨rfl, hb5⟩
              have HF5 := hfin w5 hb5
              have z5 := cellsLater hb5 hBX4.out
              have z6 := alloc_old (o := .cells #[.int .i64 v4.ts, .string v4.sh, .bool v4.dead] 29 (0, 0)) z5
              have m0 := cell_blk (i := 0) z6 rfl
              have m1 := cell_blk (i := 1) z6 rfl
              have m2 := cell_blk (i := 2) z6 rfl
              clear hfin hb5 z5 z6
              by_cases q2 : c4 = 2
              · subst q2
                clear q3
                go_wp2
                go_roundg (more.length - (kk + 1))
                case measure => omega
                case rel => exact ⟨kk + 1, by omega, by omega, by go_num, (HF5.out _).1, (show Aside _ from (HF5.out _).2)⟩
              · have d2 : (c4 == 2) = false := beq_eq_false_iff_ne.2 q2
                clear q2
                go_wp2
                go_roundg (more.length - (kk + 1))
                case measure => omega
                case rel => exact ⟨kk + 1, by omega, by omega, by go_num, (HF5.out _).1, (show Aside _ from (HF5.out _).2)⟩
      · have h6z : ¬ (kk : Int) < 60 := by omega
        have HF := Lib.hid F.out.1
        clear F
        go_wp2
        go_ret
        exact ⟨rfl, HF.out⟩
    · have hltz : ¬ (kk : Int) < (more.length : Int) := by omega
      have HF := Lib.hid F.out.1
      clear F
      go_wp2
      go_ret
      exact ⟨rfl, HF.out⟩
end Go.Proofs.Ytokfbikiicfafaa
