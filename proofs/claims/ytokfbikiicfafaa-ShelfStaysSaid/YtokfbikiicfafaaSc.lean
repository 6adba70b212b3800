/- Walks of chain.Check (of a chain that may be), sort.Search, chain.until. -/
import Derived.Test.YtokfbikiicfafaaSp
namespace Go.Proofs.Ytokfbikiicfafaa
open Go.RowKit Go.Maps
set_option linter.unusedVariables false

set_option maxHeartbeats 1000000 in
theorem check_ok (ok : Nat → Prop) (A : Option Addr) (c : Nat) (l : List Ver) (w : World) (hz : RdSl 3 encVer w ok A l) (hl : ChainOk l) :
    Calls Try.prog 71 #[.slice A l.length c] w fun e w' => e = .returned (.tuple #[.int .i64 0, .int .i64 0]) ∧ Below w.heap.size w w' := by
  have HZ := Lib.hid hz
  have HL := Lib.hid hl
  have h1024 := hl.len
  clear hz hl
  go_enter Try.func71, Try.ntmps71
  go_wp2
  go_loopg [4, 12] l.length (fun gg s4 s12 wr => ∃ (kk : Nat) (la : Int), kk ≤ l.length ∧ l.length - kk ≤ gg ∧ s4 = .int .i64 la ∧ s12 = .int .i64 kk ∧ Aside (Below w.heap.size w wr) ∧ Aside (∀ x, l[kk]? = some x → la < x.ts))
  case atStart => exact ⟨0, 0, Nat.zero_le _, by omega, rfl, rfl, Below.refl _ w, (show Aside _ from fun x hx => by have := (HL.out.vers x (List.mem_of_getElem? hx)).lo; omega)⟩
  case round =>
    obtain ⟨kk, la, hkk, hg, rfl, rfl, BW, F⟩ := hrel
    by_cases hlt : kk < l.length
    · have hltz : (kk : Int) < (l.length : Int) := by omega
      obtain ⟨x, hx⟩ : ∃ x, l[kk]? = some x := ⟨_, List.getElem?_eq_getElem hlt⟩
      obtain ⟨b, off, e, _, hb, hc⟩ := HZ.out (by intro h; simp [h] at hlt)
      subst e
      have l0 := (BW.out.cell (p := ⟨b, off + kk * 3 + 0, none⟩) hb).trans (hc kk x hx 0 _ rfl)
      have l1 := (BW.out.cell (p := ⟨b, off + kk * 3 + 1, none⟩) hb).trans (hc kk x hx 1 _ rfl)
      have l2 := (BW.out.cell (p := ⟨b, off + kk * 3 + 2, none⟩) hb).trans (hc kk x hx 2 _ rfl)
      rw [Nat.add_zero] at l0
      have hv := HL.out.vers x (List.mem_of_getElem? hx)
      have v1 := hv.lo
      have v2 := hv.hi
      have v3 := hv.sh
      have v4 := hv.dead
      have v5 := F.out x hx
      have c1 : decide (x.ts < 1) = false := decide_eq_false (by omega)
      have c2 : decide (1125899906842624 < x.ts) = false := decide_eq_false (by omega)
      have c3 : decide (2052 < (x.sh.size : Int)) = false := decide_eq_false (by omega)
      have c5 : decide (x.ts ≤ la) = false := decide_eq_false (by omega)
      have HX := Lib.hid hx
      clear hc hx hv F v1 v2 v3
      cases hd : x.dead with
      | true =>
        rw [hd] at l2
        have v6 : (!x.sh.toList.isEmpty) = false := by rw [v4 hd]; rfl
        clear v4 hd
        go_wp2
        go_roundg (l.length - (kk + 1))
        case measure => omega
        case rel => exact ⟨kk + 1, x.ts, by omega, by omega, rfl, by go_num, BW.out.alloc BW.out.size _, (show Aside _ from fun y hy => HL.out.lt HX.out hy (by omega))⟩
      | false =>
        rw [hd] at l2
        clear v4 hd
        go_wp2
        go_roundg (l.length - (kk + 1))
        case measure => omega
        case rel => exact ⟨kk + 1, x.ts, by omega, by omega, rfl, by go_num, BW.out.alloc BW.out.size _, (show Aside _ from fun y hy => HL.out.lt HX.out hy (by omega))⟩
    · have hltz : ¬ (kk : Int) < (l.length : Int) := by omega
      have : kk = l.length := by omega
      subst this
      go_wp2
      go_ret2
      exact ⟨rfl, BW.out⟩

set_option maxHeartbeats 1000000 in
theorem search_any (m n : Nat) (g : Nat) (lb : Array Value) (eg : ∀ args w, (callFunc g args).run Try.prog w = .ok (.enter g args) w) (w : World) (hmn : m ≤ n) (hn : n ≤ 1000000)
    (hp : ∀ (W : World) (h : Nat), h < n → Below w.heap.size w W → Calls Try.prog g (#[.int .i64 h] ++ lb) W fun e w' => e = .returned (.bool (decide (m ≤ h))) ∧ Below w.heap.size w w') :
    Calls Try.prog 110 #[.int .i64 n, .func (.func g) #[] lb] w fun e w' => e = .returned (.int .i64 m) ∧ Below w.heap.size w w' := by
  have HM := Lib.hid hmn
  clear hmn
  go_enter Try.func110, Try.ntmps110
  go_wp2
  go_loopg [5, 6] n (fun gg s5 s6 wr => ∃ (i j : Nat), i ≤ m ∧ m ≤ j ∧ j ≤ n ∧ j - i ≤ gg ∧ s5 = .int .i64 i ∧ s6 = .int .i64 j ∧ Aside (Below w.heap.size w wr))
  case atStart => exact ⟨0, n, by omega, HM.out, by omega, by omega, rfl, rfl, Below.refl _ w⟩
  case round =>
    obtain ⟨i, j, h1, h2, h3, hg, rfl, rfl, BW⟩ := hrel
    by_cases hlt : i < j
    · have hltz : (i : Int) < (j : Int) := by omega
      have hcall := hp wr ((i + j) / 2) (by omega) BW.out
      rw [show (((i + j) / 2 : Nat) : Int) = ((i : Int) + (j : Int)) / 2 from by omega] at hcall
      clear hp
      by_cases hq : m ≤ (i + j) / 2
      · rw [decide_eq_true hq] at hcall
        go_wp2_with (go_at_fn g; refine hcall.mono ?_; rintro e w' ⟨rfl, hb'⟩)
        go_roundg ((i + j) / 2 - i)
        case measure => omega
        case rel => exact ⟨i, (i + j) / 2, by omega, by omega, by omega, by omega, rfl, by go_num, hb'⟩
      · rw [decide_eq_false hq] at hcall
        go_wp2_with (go_at_fn g; refine hcall.mono ?_; rintro e w' ⟨rfl, hb'⟩)
        go_roundg (j - ((i + j) / 2 + 1))
        case measure => omega
        case rel => exact ⟨(i + j) / 2 + 1, j, by omega, by omega, by omega, by omega, by go_num, rfl, hb'⟩
    · have hltz : ¬ (i : Int) < (j : Int) := by omega
      obtain rfl : i = m := by omega
      go_wp2
      go_ret
      exact ⟨rfl, BW.out⟩

set_option maxHeartbeats 1000000 in
theorem until_c (h n c b off B1 B2 : Nat) (t ts : Int) (W : World) (c1 : W.cell? ⟨B1, 0, none⟩ = some (.slice (some ⟨b, off, none⟩) n c)) (c2 : W.cell? ⟨B2, 0, none⟩ = some (.int .i64 t))
    (c3 : W.cell? ⟨b, off + h * 3, none⟩ = some (.int .i64 ts)) (hn : n ≤ 1024) (hh : h < n) :
    Calls Try.prog 111 #[.int .i64 h, .pointer (some ⟨B1, 0, none⟩), .pointer (some ⟨B2, 0, none⟩)] W fun e w' => e = .returned (.bool (decide (t < ts))) ∧ Below W.heap.size W w' := by
  have hi : (h : Int) < (n : Int) := by omega
  go_enter Try.func111, Try.ntmps111
  go_wp2
  go_region
  all_goals
    go_wp2
    go_ret
    exact ⟨rfl, by constructor <;> first | rfl | exact Nat.le_refl _ | (intro k hk; rfl)⟩

set_option maxHeartbeats 1000000 in
theorem until_any (ok : Nat → Prop) (A : Option Addr) (c : Nat) (l : List Ver) (t : Int) (w : World) (hz : RdSl 3 encVer w ok A l) (hl : ChainOk l) :
    Calls Try.prog 72 #[.slice A l.length c, .int .i64 t] w fun e w' => e = .returned (.int .i64 (upto l t : Nat)) ∧ Below w.heap.size w w' := by
  have h1024 := hl.len
  have hS := fun (w1 : World) (hb1 : Below w.heap.size w w1) (c1 : w1.cell? ⟨w.heap.size, 0, none⟩ = some (.slice A l.length c)) (c2 : w1.cell? ⟨w.heap.size + 1, 0, none⟩ = some (.int .i64 t)) (hsz : w.heap.size + 1 < w1.heap.size) =>
    search_any (upto l t) l.length 111 #[.pointer (some ⟨w.heap.size, 0, none⟩), .pointer (some ⟨w.heap.size + 1, 0, none⟩)] (enters_of Try.func111 (by kernel_rfl) rfl) w1 (upto_le l t) (by omega)
      (fun W h hh hB => by
        obtain ⟨b, off, e, _, hb, hc⟩ := hz (by intro e; simp [e] at hh)
        subst e
        obtain ⟨x, hx⟩ : ∃ x, l[h]? = some x := ⟨_, List.getElem?_eq_getElem hh⟩
        have e1 : decide (upto l t ≤ h) = decide (t < x.ts) := by
          by_cases hu : upto l t ≤ h
          · rw [decide_eq_true hu, decide_eq_true (upto_above hl hx hu)]
          · rw [decide_eq_false hu, decide_eq_false (by have := upto_below hx (by omega : h < upto l t); omega)]
        rw [e1]
        refine (until_c h l.length c b off w.heap.size (w.heap.size + 1) t x.ts W ((hB.cell (p := ⟨w.heap.size, 0, none⟩) (by show w.heap.size < _; omega)).trans c1) ((hB.cell (p := ⟨w.heap.size + 1, 0, none⟩) hsz).trans c2) ?_ h1024 hh).mono ?_
        · have := hc h x hx 0 _ rfl
          rw [Nat.add_zero] at this
          exact (hB.cell (p := ⟨b, off + h * 3, none⟩) (by have := hb1.size; show b < _; omega)).trans ((hb1.cell (p := ⟨b, off + h * 3, none⟩) hb).trans this)
        · rintro e w' ⟨rfl, hb'⟩
          exact ⟨rfl, hB.trans (hb'.mono hB.size)⟩)
  clear hz hl
  go_enter Try.func72, Try.ntmps72
  go_wp2_with (go_at_call 110; refine (hS _ ?_ ?_ ?_ ?_).mono ?_)
  · exact ((Below.refl _ _).alloc (Nat.le_refl _) _).alloc (by simp) _
  · go_simp
  · go_simp
  · simp
  · rintro e w' ⟨rfl, hb'⟩
    go_wp2
    go_ret
    exact ⟨rfl, (((Below.refl _ _).alloc (Nat.le_refl _) _).alloc (by simp) _).trans (hb'.mono (by simp; omega))⟩

end Go.Proofs.Ytokfbikiicfafaa
