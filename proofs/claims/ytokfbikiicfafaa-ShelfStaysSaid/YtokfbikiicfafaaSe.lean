/- Walks of slices.Grow and slices.Concat at two slices, chain.Add, chain.Last, chain.At, chain.Sweep: of chains that may be. -/
import Derived.Test.YtokfbikiicfafaaSd
import Derived.Laws.AppendOwnNone
import Derived.Lib.AppendZerosOnto
import Derived.Lib.SliceRun
import Derived.Lib.Walk
import Derived.WalkSpells
namespace Go.Proofs.Ytokfbikiicfafaa
open Go.RowKit Go.Maps
set_option linter.unusedVariables false

set_option maxHeartbeats 2000000 in
set_option maxRecDepth 100000 in
theorem grow_ver (n : Nat) (w : World) (h0 : 0 < n) (hn : n ≤ 100000) :
    Calls Try.prog 138 #[.slice none 0 0, .int .i64 n] w fun e w' => ∃ v, e = .returned v ∧ w'.ownsRow w.heap.size 29 3 v 0 [] ∧ Below w.heap.size w w' := by
  obtain ⟨i0, hi, hz0, hz1, hz2⟩ := info_parts info_ver
  have h1 : ¬ ((n : Int) < 0) := by omega
  have hrz : ∀ ty, (Builtin.append_ #[81, 3] ty #[.slice none 0 0, .int .i64 (n : Int)]).run Try.prog w =
      .ok (.slice (some ⟨w.heap.size, 0, none⟩) n (grownCap w n 0 29)) (w.drew.alloc (.cells (Builtin.zeroCells #[.int .i64 0, .string ⟨#[]⟩, .bool false] n ++ Builtin.zeroCells #[.int .i64 0, .string ⟨#[]⟩, .bool false] (grownCap w n 0 29 - n)) 29)) := fun ty =>
    Lib.run_append_nil_zeros w 81 3 ty 29 i0 (.agg #[.int .i64 0, .string ⟨#[]⟩, .bool false]) .i64 .i64 Try.underlying81 Try.underlying3 hi hz0 n h0 (by omega) (by omega) (by rw [hz2]; omega)
  have hGn : n ≤ grownCap w n 0 29 := grownCap_ge w _ _ _
  obtain ⟨G, hG⟩ : ∃ G, G = grownCap w n 0 29 := ⟨_, rfl⟩
  have hG63 : G ≤ 9223372036854775807 := by
    have := grownCap_le_maxLen w n 0 29 (by unfold maxLen; omega)
    rw [← hG] at this
    unfold maxLen at this
    omega
  rw [← hG] at hrz hGn
  clear hG
  go_enter Try.func138, Try.ntmps138
  go_wp2_with (at_builtin; refine Lib.wpList_append_run _ rfl _ _ _ _ rfl _ _ rfl rfl _ _ (hrz _) ?_)
  go_ret
  refine ⟨_, rfl, ⟨by simp, .inr ⟨w.heap.size, G, _, rfl, Nat.le_refl _, (MapKept.heap_alloc w.drew _).1, by omega, by unfold maxLen; omega, ?_, by simp⟩⟩, ?_⟩
  · simp [Builtin.zeroCells]
    omega
  · exact (Below.refl _ w).drew.alloc (Nat.le_refl _) _

def part (l : List Ver) (v : Ver) : Nat → List Ver | 0 => [] | 1 => l | _ => l ++ [v]

set_option maxHeartbeats 2000000 in
set_option maxRecDepth 100000 in
theorem concat_ver (ok : Nat → Prop) (A A2 : Option Addr) (c c2 cc B : Nat) (l : List Ver) (v : Ver) (w : World) (hA : A = none → c = 0) (hz : RdSl 3 encVer w ok A l) (hz2 : RdSl 3 encVer w ok A2 [v]) (hl : l.length ≤ 1024)
    (c0 : w.cell? ⟨B, 0, none⟩ = some (.slice A l.length c)) (c1 : w.cell? ⟨B, 0 + 1, none⟩ = some (.slice A2 1 c2)) :
    Calls Try.prog 115 #[.slice (some ⟨B, 0, none⟩) 2 cc] w fun e w' => ∃ u, e = .returned u ∧ w'.ownsRow w.heap.size 29 3 u (l ++ [v]).length ((l ++ [v]).flatMap encVer) ∧ Below w.heap.size w w' := by
  obtain ⟨i0, hi, hi0, hi1, hi2⟩ := info_parts info_ver
  have hB : B < w.heap.size := World.block_lt_of_cell? w _ c0
  have HZ := Lib.hid hz
  have HZ2 := Lib.hid hz2
  have HA := Lib.hid hA
  clear hz hz2 hA
  go_enter Try.func115, Try.ntmps115
  go_wp2
  go_loopg [3, 11] 2 (fun gg s3 s11 wr => ∃ kk n : Nat, kk ≤ 2 ∧ 2 - kk ≤ gg ∧ s3 = .int .i64 n ∧ s11 = .int .i64 kk ∧ w = wr ∧ Aside (n = (part l v kk).length))
  case atStart => exact ⟨0, 0, by omega, by omega, rfl, rfl, rfl, (show Aside _ from rfl)⟩
  case round =>
    obtain ⟨kk, n, hkk, hg, rfl, rfl, rfl, hn⟩ := hrel
    match kk, hkk with
    | 0, _ =>
      obtain rfl : n = 0 := hn.out
      go_wp2
      go_roundg 1
      case measure => omega
      case rel => exact ⟨1, l.length, by omega, by omega, by simp, rfl, rfl, (show Aside _ from rfl)⟩
    | 1, _ =>
      obtain rfl : n = l.length := hn.out
      go_wp2
      go_roundg 0
      case measure => omega
      case rel => exact ⟨2, l.length + 1, by omega, by omega, by simp, rfl, rfl, (show Aside _ from (show l.length + 1 = (l ++ [v]).length from by simp))⟩
    | 2, _ =>
      obtain rfl : n = l.length + 1 := by have := hn.out; simpa [part] using this
      clear hn
      have hG := grow_ver (l.length + 1) w (by omega) (by omega)
      rw [show ((l.length + 1 : Nat) : Int) = (l.length : Int) + 1 from by omega] at hG
      go_wp2_with (go_at_call 138; refine hG.mono ?_; rintro e w1 ⟨u, rfl, hown, hbel⟩)
      clear hG
      go_loopg [6, 27] 2 (fun gg s6 s27 w2 => ∃ kk : Nat, kk ≤ 2 ∧ 2 - kk ≤ gg ∧ s27 = .int .i64 kk ∧ Aside (w2.ownsRow w.heap.size 29 3 s6 (part l v kk).length ((part l v kk).flatMap encVer)) ∧ Aside (Below w.heap.size w w2))
      case atStart => exact ⟨0, by omega, by omega, rfl, hown, hbel⟩
      case round =>
        clear hown hbel
        obtain ⟨kk, hkk, hg, rfl, hown, hbel⟩ := hrel
        have c0' := (hbel.out.cell (p := ⟨B, 0, none⟩) hB).trans c0
        have c1' := (hbel.out.cell (p := ⟨B, 0 + 1, none⟩) hB).trans c1
        match kk, hkk with
        | 0, _ =>
          cases A with
          | none =>
            obtain rfl : c = 0 := HA.out rfl
            obtain rfl : l = [] := by
              by_cases e : l = []
              · exact e
              · obtain ⟨b, off, e1, _⟩ := HZ.out e
                cases e1
            go_wp2_with (at_builtin; refine wpList_append_own_none rfl _ _ 81 rfl w.heap.size 29 i0 3 Try.underlying81 hi _ _ _ rfl hown.out rfl ?_)
            go_roundg 1
            case measure => omega
            case rel => exact ⟨1, by omega, by omega, by go_num, hown, hbel⟩
          | some ad =>
            have HF := Lib.hid (HZ.out.flat len_encVer (by decide) rfl)
            go_wp2_with (at_builtin; refine wpList_append_own _ rfl _ _ 81 rfl w.heap.size 29 i0 (.agg #[.int .i64 0, .string ⟨#[]⟩, .bool false]) 3 32 Try.underlying81 hi hi0 hi1 hi2 rfl (by decide) _ _ _ rfl hown.out ad l.length c (l.flatMap encVer) rfl ?qc1 ?qc2 ?qc3 ?qc4 ?qc5 ?qc6 ?_)
            case qc1 => exact flatMap_len len_encVer l
            case qc2 => exact fun j u hj => cell_later hbel.out (HF.out j u hj)
            case qc3 =>
              intro u hu
              obtain ⟨x, _, hx⟩ := List.mem_flatMap.1 hu
              exact one_encVer x u hx
            case qc4 => unfold maxLen; simp [part]; omega
            case qc5 => simp [part]; omega
            case qc6 => exact hbel.out.size
            intro v' w3 hown' hgrow _
            have hb3 := hbel.out.grown hgrow hbel.out.size (fun k hk => (own_block_lt hown.out hk).1)
            have hown2 : w3.ownsRow w.heap.size 29 3 v' (part l v 1).length ((part l v 1).flatMap encVer) := by simpa [part] using hown'
            clear hgrow hown'
            go_wp2
            go_roundg 1
            case measure => omega
            case rel => exact ⟨1, by omega, by omega, by go_num, hown2, hb3⟩
        | 1, _ =>
          have hA2 : A2 ≠ none := by
            obtain ⟨b, off, e1, _⟩ := HZ2.out (by simp)
            rw [e1]
            simp
          cases A2 with
          | none => exact absurd rfl hA2
          | some ad =>
            have HF := Lib.hid (HZ2.out.flat len_encVer (by decide) rfl)
            go_wp2_with (at_builtin; refine wpList_append_own _ rfl _ _ 81 rfl w.heap.size 29 i0 (.agg #[.int .i64 0, .string ⟨#[]⟩, .bool false]) 3 32 Try.underlying81 hi hi0 hi1 hi2 rfl (by decide) _ _ _ rfl hown.out ad 1 c2 ([v].flatMap encVer) rfl ?rc1 ?rc2 ?rc3 ?rc4 ?rc5 ?rc6 ?_)
            case rc1 => exact flatMap_len len_encVer [v]
            case rc2 => exact fun j u hj => cell_later hbel.out (HF.out j u hj)
            case rc3 =>
              intro u hu
              obtain ⟨x, _, hx⟩ := List.mem_flatMap.1 hu
              exact one_encVer x u hx
            case rc4 => unfold maxLen; simp [part]; omega
            case rc5 => simp [part]; omega
            case rc6 => exact hbel.out.size
            intro v' w3 hown' hgrow _
            have hb3 := hbel.out.grown hgrow hbel.out.size (fun k hk => (own_block_lt hown.out hk).1)
            have hown2 : w3.ownsRow w.heap.size 29 3 v' (part l v 2).length ((part l v 2).flatMap encVer) := by simpa [part] using hown'
            clear hgrow hown'
            go_wp2
            go_roundg 0
            case measure => omega
            case rel => exact ⟨2, by omega, by omega, by go_num, hown2, hb3⟩
        | 2, _ => 
          go_wp2
          go_ret
          exact ⟨_, rfl, hown.out, hbel.out⟩

theorem own_lower {w : World} {base base' e size n : Nat} {v : Value} {xs : List Value} (h : w.ownsRow base e size v n xs) (hb : base' ≤ base) : w.ownsRow base' e size v n xs := by
  obtain ⟨h1, h2⟩ := h
  refine ⟨h1, ?_⟩
  rcases h2 with h2 | ⟨g, cap, cur, e1, hg, r⟩
  · exact .inl h2
  · exact .inr ⟨g, cap, cur, e1, Nat.le_trans hb hg, r⟩


set_option maxHeartbeats 2000000 in
theorem add_ver (ok : Nat → Prop) (A : Option Addr) (c : Nat) (l : List Ver) (v : Ver) (w : World) (hA : A = none → c = 0) (hz : RdSl 3 encVer w ok A l) (hl : ChainOk l) (hv : VerOk v) (hlt : l.length < 1024) (hts : lastTs l < v.ts) :
    Calls Try.prog 84 #[.slice A l.length c, .agg #[.int .i64 v.ts, .string v.sh, .bool v.dead]] w fun e w' => ∃ u, e = .returned (.tuple #[u, .int .i64 0]) ∧ w'.ownsRow w.heap.size 29 3 u (l ++ [v]).length ((l ++ [v]).flatMap encVer) ∧ Below w.heap.size w w' := by
  have HZ := Lib.hid hz
  have HL := Lib.hid hl
  have HT := Lib.hid hts
  have HV := Lib.hid hv
  have hl0 := hl.len
  clear hz hl hts hv
  go_enter Try.func84, Try.ntmps84
  go_wp2_with fail
  go_loopg [15] 2 (fun gg s15 wr => ∃ kk : Nat, kk ≤ 2 ∧ 2 - kk ≤ gg ∧ s15 = .int .i64 kk ∧ Aside (Below w.heap.size w wr) ∧ Aside (wr.heap[w.heap.size]? = some (.cells #[.int .i64 v.ts, .string v.sh, .bool v.dead] 29 (0, 0))) ∧
      Aside (wr.cell? ⟨w.heap.size + 1 + 1, 0, none⟩ = some (.slice A l.length c)) ∧ Aside (wr.cell? ⟨w.heap.size + 1 + 1, 0 + 1, none⟩ = some (.slice (some ⟨w.heap.size + 1, 0, none⟩) 1 1)) ∧ Aside (RdSl 3 encVer wr (fun _ => True) (some ⟨w.heap.size + 1, 0, none⟩) [v]))
  case atStart =>
    refine ⟨0, by omega, by omega, rfl, ?_, ?_, ?_, ?_, ?_⟩
    · exact (((Below.refl _ _).alloc (Nat.le_refl _) _).alloc (by simp) _).alloc (by simp; omega) _
    · exact (show Aside _ from alloc_old (alloc_old (alloc_blk rfl)))
    · exact (show Aside _ from cell_blk (alloc_blk (by simp)) rfl)
    · exact (show Aside _ from cell_blk (alloc_blk (by simp)) rfl)
    · exact (show Aside _ from rd_one _ trivial (alloc_old (alloc_blk (by simp))))
  case round =>
    obtain ⟨kk, hkk, hg, rfl, hbel, hbox, hc0, hc1, hone⟩ := hrel
    have k0 := hc0.out
    have k1 := hc1.out
    match kk, hkk with
    | 0, _ =>
      have hC := check_ok _ A c l wr (HZ.out.below hbel.out) HL.out
      clear hc0 hc1
      go_wp2_with (go_at_call 71; refine hC.mono ?_; rintro e w1 ⟨rfl, hb1⟩)
      go_roundg 1
      case measure => omega
      case rel => exact ⟨1, by omega, by omega, by go_num, hbel.out.trans (hb1.mono hbel.out.size), (show Aside _ from cellsLater hb1 hbox.out), cell_later hb1 k0, cell_later hb1 k1, hone.out.below hb1⟩
    | 1, _ =>
      have hC := check_ok _ (some ⟨w.heap.size + 1, 0, none⟩) 1 [v] wr hone.out (ChainOk.one HV.out)
      clear hc0 hc1
      go_wp2_with (go_at_call 71; refine hC.mono ?_; rintro e w1 ⟨rfl, hb1⟩)
      go_roundg 0
      case measure => omega
      case rel => exact ⟨2, by omega, by omega, by go_num, hbel.out.trans (hb1.mono hbel.out.size), (show Aside _ from cellsLater hb1 hbox.out), cell_later hb1 k0, cell_later hb1 k1, hone.out.below hb1⟩
    | 2, _ =>
      clear k0 k1 hc0 hc1 hone
      have bx0 := cell_blk (i := 0) (u := .int .i64 v.ts) hbox.out rfl
      have bx1 := cell_blk (i := 1) (u := .string v.sh) hbox.out rfl
      have bx2 := cell_blk (i := 2) (u := .bool v.dead) hbox.out rfl
      have hcat := fun (W : World) (B B3 : Nat) (hW : Below wr.heap.size wr W) (k0 : W.cell? ⟨B, 0, none⟩ = some (.slice A l.length c)) (k1 : W.cell? ⟨B, 0 + 1, none⟩ = some (.slice (some ⟨B3, 0, none⟩) 1 1)) (k2 : W.heap[B3]? = some (.cells (encVer v).toArray 29 (0, 0))) =>
        concat_ver (fun _ => True) A (some ⟨B3, 0, none⟩) c 1 2 B l v W hA (((HZ.out.below hbel.out).below hW).move (fun b _ _ => rfl) (Nat.le_refl _) (fun _ _ _ => trivial)) (rd_one _ trivial k2) hl0 k0 k1
      by_cases hne : l = []
      · subst hne
        go_wp2
        go_quiet (fail)
        go_wp2_with (go_at_call 115; refine (hcat _ (wr.heap.size + 1) wr.heap.size ?_ ?_ ?_ ?_).mono ?_)
        · exact ((below_drewN (Below.refl _ _) _).alloc (Nat.le_refl _) _).alloc (by simp) _
        · exact cell_blk (alloc_blk (by simp)) rfl
        · exact cell_blk (alloc_blk (by simp)) rfl
        · exact alloc_old (alloc_blk rfl)
        · rintro e w5 ⟨u, rfl, hown, hb5⟩
          go_wp2
          go_ret2
          refine ⟨u, rfl, own_lower hown (by simp; exact Nat.le_trans hbel.out.size (by omega)), hbel.out.trans ((((below_drewN (Below.refl _ _) _).alloc (Nat.le_refl _) _).alloc (by simp) _).trans (hb5.mono (by simp; omega)) |>.mono hbel.out.size)⟩
      · have hpos : 0 < l.length := List.length_pos_iff.2 hne
        obtain ⟨x, hx⟩ : ∃ x, l[l.length - 1]? = some x := ⟨_, List.getElem?_eq_getElem (by omega)⟩
        have hxt : x.ts < v.ts := by have := HT.out; rw [lastTs_of hx] at this; exact this
        obtain ⟨b, off, e, _, hb, hc⟩ := HZ.out hne
        subst e
        have l0 := (hbel.out.cell (p := ⟨b, off + (l.length - 1) * 3 + 0, none⟩) hb).trans (hc _ x hx 0 _ rfl)
        rw [Nat.add_zero] at l0
        have d1 : decide (0 < (l.length : Int)) = true := decide_eq_true (by omega)
        have d2 : decide (v.ts ≤ x.ts) = false := decide_eq_false (by omega)
        have d3 : ((l.length : Int) == 1024) = false := beq_eq_false_iff_ne.2 (by omega)
        clear hc hx
        go_wp2
        go_quiet (fail)
        go_wp2_with (go_at_call 115; refine (hcat _ (wr.heap.size + 1) wr.heap.size ?_ ?_ ?_ ?_).mono ?_)
        · exact ((below_drewN (Below.refl _ _) _).alloc (Nat.le_refl _) _).alloc (by simp) _
        · exact cell_blk (alloc_blk (by simp)) rfl
        · exact cell_blk (alloc_blk (by simp)) rfl
        · exact alloc_old (alloc_blk rfl)
        · rintro e w5 ⟨u, rfl, hown, hb5⟩
          go_wp2
          go_ret2
          refine ⟨u, rfl, own_lower hown (by simp; exact Nat.le_trans hbel.out.size (by omega)), hbel.out.trans ((((below_drewN (Below.refl _ _) _).alloc (Nat.le_refl _) _).alloc (by simp) _).trans (hb5.mono (by simp; omega)) |>.mono hbel.out.size)⟩
end Go.Proofs.Ytokfbikiicfafaa
