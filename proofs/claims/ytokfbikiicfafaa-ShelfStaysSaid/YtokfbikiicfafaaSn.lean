/- shelf.Last, Read, Swept, New. -/
import Derived.Test.YtokfbikiicfafaaSm
namespace Go.Proofs.Ytokfbikiicfafaa
open Go.RowKit Go.Maps
set_option linter.unusedVariables false

theorem last_any {base : Nat} {ok : Nat → Prop} {p bk bq : Nat} {ev : Value} {S : ShS} (key : ByteArray) (w : World) (h : ShAt w base ok p bk bq ev S) (hk : key.size ≤ maxLen) (hc : ChainOk (chain S.K key)) :
    Calls Try.prog 43 #[.pointer (some ⟨p, 0, none⟩), .string key] w fun e w' => e = .returned (.int .i64 (lastTs (chain S.K key))) ∧ Below w.heap.size w w' := by
  have c0 := cell_blk (i := 0) (u := .map (some bk)) h.blk rfl
  obtain ⟨v, l, ⟨A, c, ev, hle, _, s7⟩, hat, hlook⟩ := look_key h key hk false
  have el := hlook w rfl
  simp only [Bool.false_eq_true, if_false] at el
  have ec : chain S.K key = l := by unfold chain; rw [hat]
  rw [ec] at hc ⊢
  subst ev
  have hL := last_ver ok A c l w s7 hc
  clear hlook h hat ec hc s7
  go_enter Try.func43, Try.ntmps43
  go_wp2_with (first | (at_lookup; refine wpList_lookup_run rfl _ _ _ _ rfl rfl rfl el ?_) | (go_at_call 91; refine hL.mono ?_; rintro e w1 ⟨rfl, hb1⟩))
  go_ret
  exact ⟨rfl, hb1⟩

theorem swept_any {base : Nat} {ok : Nat → Prop} {p bk bq : Nat} {ev : Value} {S : ShS} (w : World) (h : ShAt w base ok p bk bq ev S) :
    Calls Try.prog 25 #[.pointer (some ⟨p, 0, none⟩)] w fun e w' => e = .returned (.int .i64 S.over) ∧ w = w' := by
  have c0 := cell_blk (i := 3) (u := .int .i64 S.over) h.blk rfl
  clear h
  go_enter Try.func25, Try.ntmps25
  go_wp2
  go_ret
  exact ⟨rfl, rfl⟩

def readOf (S : ShS) (key : ByteArray) (t : Int) : Int × Ver :=
  if t < S.over then (4, noVer) else if heldIn S.P (hit key false) = true then (3, noVer) else
  match atTs (chain S.K key) t with | none => (0, noVer) | some x => if x.dead = true then (2, x) else (1, x)

theorem drew_blk {w : World} {b : Nat} {o : Obj} (h : w.heap[b]? = some o) : w.drew.heap[b]? = some o := h

theorem results_read (tmps : Array Value) (W : World) (code : Int) (b : Nat) (x : Ver) (T : TypeId) (h6 : tmps[6]? = some (.int .i64 code)) (h7 : tmps[7]? = some (.pointer (some ⟨b, 0, none⟩))) (cs : Array Value) (fr : Nat × Nat) (hx : W.heap[b]? = some (.cells cs T fr)) (g0 : cs[0]? = some (.int .i64 x.ts)) (g1 : cs[1]? = some (.string x.sh)) (g2 : cs[2]? = some (.bool x.dead)) :
    (results Try.f12 tmps).run Try.prog W = .ok (.tuple #[.int .i64 code, verAgg x]) W := by
  have k0 := cell_blk (i := 0) hx g0
  have k1 := cell_blk (i := 1) hx g1
  have k2 := cell_blk (i := 2) hx g2
  simp [results, Try.results12, go_sem, verAgg, h6, h7, k0, k1, k2]

set_option maxHeartbeats 2000000 in
theorem read_any {base : Nat} {ok : Nat → Prop} {p bk bq : Nat} {ev : Value} {S : ShS} (key : ByteArray) (t : Int) (w : World) (h : ShAt w base ok p bk bq ev S) (hk : key.size ≤ maxLen) (hc : ChainOk (chain S.K key)) (hsm : ∀ kl r, (∀ z, S.P.atKey kl z = .held r) → r.keys.length ≤ 16 ∧ r.writes.length ≤ 16) :
    Calls Try.prog 12 #[.pointer (some ⟨p, 0, none⟩), .string key, .int .i64 t] w fun e w' => e = .returned (.tuple #[.int .i64 (readOf S key t).1, verAgg (readOf S key t).2]) ∧ Below w.heap.size w w' := by
  have HB := Below.refl w.heap.size w
  have c3 := cell_blk (i := 3) (u := .int .i64 S.over) h.blk rfl
  by_cases h1 : t < S.over
  · have HS := Lib.hid (show readOf S key t = (4, noVer) by unfold readOf; rw [if_pos h1])
    have d3 : (w.alloc (.cells #[.int .i64 0, .string ⟨#[]⟩, .bool false] 29 (0, 0))).cell? ⟨p, 3, none⟩ = some (.int .i64 S.over) := cell_blk (alloc_old h.blk) rfl
    clear h hc hsm
    go_enter Try.func12, Try.ntmps12
    go_wp2
    go_region
    go_wp2
    refine bodyPost_ret (v := .tuple #[.int .i64 4, verAgg noVer]) (by simp [results, Try.results12, go_sem, verAgg, noVer]) rfl ⟨by rw [HS.out], ?_⟩
    repeat (with_reducible first | exact HB | refine Below.setCell ?_ (by simp) _ | refine Below.drew ?_ | refine below_drewN ?_ _ | refine Below.alloc ?_ (by simp) _)
  · have d3 : (w.alloc (.cells #[.int .i64 0, .string ⟨#[]⟩, .bool false] 29 (0, 0))).cell? ⟨p, 3, none⟩ = some (.int .i64 S.over) := cell_blk (alloc_old h.blk) rfl
    have hH := fun (W : World) (hW : Below w.heap.size w W) => held_any key false W (h.below hW) hsm
    have c0 := cell_blk (i := 0) (u := .map (some bk)) h.blk rfl
    cases h2 : heldIn S.P (hit key false) with
    | true =>
      have HS := Lib.hid (show readOf S key t = (3, noVer) by unfold readOf; rw [if_neg h1, if_pos h2])
      rw [h2] at hH
      clear h hc hsm h2
      go_enter Try.func12, Try.ntmps12
      go_wp2_with (first | (go_at_call 31; refine (hH _ ?_).mono ?_; (exact HB.alloc (Nat.le_refl _) _); rintro e w1 ⟨rfl, hb1⟩; have hw1 := Lib.hid ((HB.alloc (Nat.le_refl _) _).trans (hb1.mono (by simp))); have hx1 := cellsLater hb1 (alloc_blk rfl); have hk0 := cell_blk (i := 0) hx1 rfl; have hk1 := cell_blk (i := 1) hx1 rfl; have hk2 := cell_blk (i := 2) hx1 rfl; have hf := fun i => frozen_blk (i := i) hx1; have k0 := cell_later hw1.out c0))
      go_region
      go_wp2
      refine bodyPost_ret (v := .tuple #[.int .i64 3, verAgg noVer]) (by simp [results, Try.results12, go_sem, verAgg, noVer, hk0, hk1, hk2]) rfl ⟨by rw [HS.out], ?_⟩
      repeat (with_reducible first | exact hw1.out | refine Below.setCell ?_ (by simp) _ | refine Below.drew ?_ | refine below_drewN ?_ _ | refine Below.alloc ?_ (by simp) _)
    | false =>
      obtain ⟨v, l, ⟨A, c, ev, hle, _, s7⟩, hat, hlook⟩ := look_key h key hk false
      simp only [Bool.false_eq_true, if_false] at hlook
      have ec : chain S.K key = l := by unfold chain; rw [hat]
      rw [ec] at hc
      subst ev
      have hA := fun (W : World) (hW : Below w.heap.size w W) => at_ver ok A c l t W (s7.below hW) hc
      have hlt := h.keys.lt
      rw [h2] at hH
      cases h3 : atTs l t with
      | none =>
        have HS := Lib.hid (show readOf S key t = (0, noVer) by unfold readOf; rw [if_neg h1, if_neg (by rw [h2]; simp), ec, h3])
        rw [h3] at hA
        simp only [Option.getD_none, Option.isSome_none, verAgg, noVer] at hA
        clear h hc hsm h2 h3 ec hat s7
        go_enter Try.func12, Try.ntmps12
        go_wp2_with (first | (go_at_call 31; refine (hH _ ?_).mono ?_; (exact HB.alloc (Nat.le_refl _) _); rintro e w1 ⟨rfl, hb1⟩; have hw1 := Lib.hid ((HB.alloc (Nat.le_refl _) _).trans (hb1.mono (by simp))); have hx1 := cellsLater hb1 (alloc_blk rfl); have hk0 := cell_blk (i := 0) hx1 rfl; have hk1 := cell_blk (i := 1) hx1 rfl; have hk2 := cell_blk (i := 2) hx1 rfl; have hf := fun i => frozen_blk (i := i) hx1; have k0 := cell_later hw1.out c0) | (at_lookup; refine wpList_lookup_run rfl _ _ _ _ rfl rfl rfl (hlook _ (hw1.out.block bk hlt)) ?_) | (go_at_call 34; refine (hA _ hw1.out).mono ?_; rintro e w2 ⟨rfl, hb2⟩; have hw2 := Lib.hid (hw1.out.trans (hb2.mono hw1.out.size)); have hx2 := cellsLater hb2 hx1; clear hk0 hk1 hk2 hf; have hk0 := cell_blk (i := 0) hx2 rfl; have hk1 := cell_blk (i := 1) hx2 rfl; have hk2 := cell_blk (i := 2) hx2 rfl; have hf := fun i => frozen_blk (i := i) hx2))
        go_region
        go_wp2
        refine bodyPost_ret (results_read _ _ 0 _ noVer _ rfl rfl _ _ (drew_blk (set_blk (set_blk (set_blk (set_blk (set_blk (set_blk hx2))))))) rfl rfl rfl) rfl ⟨by rw [HS.out], ?_⟩
        repeat (with_reducible first | exact hw2.out | refine Below.setCell ?_ (by simp) _ | refine Below.drew ?_ | refine below_drewN ?_ _ | refine Below.alloc ?_ (by simp) _)
      | some x =>
        rw [h3] at hA
        simp only [Option.getD_some, Option.isSome_some, verAgg] at hA
        cases h4 : x.dead with
        | true =>
          rw [h4] at hA
          have HS := Lib.hid (show readOf S key t = (2, x) by unfold readOf; rw [if_neg h1, if_neg (by rw [h2]; simp), ec, h3]; simp [h4])
          clear h hc hsm h2 h3 ec hat s7
          go_enter Try.func12, Try.ntmps12
          go_wp2_with (first | (go_at_call 31; refine (hH _ ?_).mono ?_; (exact HB.alloc (Nat.le_refl _) _); rintro e w1 ⟨rfl, hb1⟩; have hw1 := Lib.hid ((HB.alloc (Nat.le_refl _) _).trans (hb1.mono (by simp))); have hx1 := cellsLater hb1 (alloc_blk rfl); have hk0 := cell_blk (i := 0) hx1 rfl; have hk1 := cell_blk (i := 1) hx1 rfl; have hk2 := cell_blk (i := 2) hx1 rfl; have hf := fun i => frozen_blk (i := i) hx1; have k0 := cell_later hw1.out c0) | (at_lookup; refine wpList_lookup_run rfl _ _ _ _ rfl rfl rfl (hlook _ (hw1.out.block bk hlt)) ?_) | (go_at_call 34; refine (hA _ hw1.out).mono ?_; rintro e w2 ⟨rfl, hb2⟩; have hw2 := Lib.hid (hw1.out.trans (hb2.mono hw1.out.size)); have hx2 := cellsLater hb2 hx1; clear hk0 hk1 hk2 hf; have hk0 := cell_blk (i := 0) hx2 rfl; have hk1 := cell_blk (i := 1) hx2 rfl; have hk2 := cell_blk (i := 2) hx2 rfl; have hf := fun i => frozen_blk (i := i) hx2))
          go_region
          go_wp2
          refine bodyPost_ret (results_read _ _ 2 _ x _ rfl rfl _ _ (drew_blk (set_blk (set_blk (set_blk (set_blk (set_blk (set_blk hx2))))))) rfl rfl (by rw [h4]; rfl)) rfl ⟨by rw [HS.out], ?_⟩
          repeat (with_reducible first | exact hw2.out | refine Below.setCell ?_ (by simp) _ | refine Below.drew ?_ | refine below_drewN ?_ _ | refine Below.alloc ?_ (by simp) _)
        | false =>
          rw [h4] at hA
          have HS := Lib.hid (show readOf S key t = (1, x) by unfold readOf; rw [if_neg h1, if_neg (by rw [h2]; simp), ec, h3]; simp [h4])
          clear h hc hsm h2 h3 ec hat s7
          go_enter Try.func12, Try.ntmps12
          go_wp2_with (first | (go_at_call 31; refine (hH _ ?_).mono ?_; (exact HB.alloc (Nat.le_refl _) _); rintro e w1 ⟨rfl, hb1⟩; have hw1 := Lib.hid ((HB.alloc (Nat.le_refl _) _).trans (hb1.mono (by simp))); have hx1 := cellsLater hb1 (alloc_blk rfl); have hk0 := cell_blk (i := 0) hx1 rfl; have hk1 := cell_blk (i := 1) hx1 rfl; have hk2 := cell_blk (i := 2) hx1 rfl; have hf := fun i => frozen_blk (i := i) hx1; have k0 := cell_later hw1.out c0) | (at_lookup; refine wpList_lookup_run rfl _ _ _ _ rfl rfl rfl (hlook _ (hw1.out.block bk hlt)) ?_) | (go_at_call 34; refine (hA _ hw1.out).mono ?_; rintro e w2 ⟨rfl, hb2⟩; have hw2 := Lib.hid (hw1.out.trans (hb2.mono hw1.out.size)); have hx2 := cellsLater hb2 hx1; clear hk0 hk1 hk2 hf; have hk0 := cell_blk (i := 0) hx2 rfl; have hk1 := cell_blk (i := 1) hx2 rfl; have hk2 := cell_blk (i := 2) hx2 rfl; have hf := fun i => frozen_blk (i := i) hx2))
          go_region
          go_wp2
          refine bodyPost_ret (results_read _ _ 1 _ x _ rfl rfl _ _ (drew_blk (set_blk (set_blk (set_blk (set_blk (set_blk (set_blk hx2))))))) rfl rfl (by rw [h4]; rfl)) rfl ⟨by rw [HS.out], ?_⟩
          repeat (with_reducible first | exact hw2.out | refine Below.setCell ?_ (by simp) _ | refine Below.drew ?_ | refine below_drewN ?_ _ | refine Below.alloc ?_ (by simp) _)
end Go.Proofs.Ytokfbikiicfafaa
