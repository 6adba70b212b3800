/- slices.IndexFunc and ContainsFunc at the seat's element types, for whatever predicate that leaves old memory alone. -/
import Derived.Test.YtokfbikiicfafaaSa
namespace Go.Proofs.Ytokfbikiicfafaa
open Go.RowKit Go.Maps

structure Ver where
  ts : Int
  sh : ByteArray
  dead : Bool
structure Wr where
  key : ByteArray
  sh : ByteArray
  dead : Bool
structure Fin2 where
  txn : Int
  ts : Int
def encVer (v : Ver) : List Value := [.int .i64 v.ts, .string v.sh, .bool v.dead]
def encWr (v : Wr) : List Value := [.string v.key, .string v.sh, .bool v.dead]
def encFin (v : Fin2) : List Value := [.int .i64 v.txn, .int .i64 v.ts]
def encS (s : ByteArray) : List Value := [.string s]
def encI (s : Int) : List Value := [.int .i64 s]

def idxOf {α : Type} (p : α → Bool) (l : List α) : Int := match l.findIdx? p with | some i => i | none => -1

theorem idxOf_hit {α : Type} {p : α → Bool} {l : List α} {k : Nat} {x : α} (hx : l[k]? = some x) (hp : p x = true) (ha : ∀ (j : Nat) (y : α), j < k → l[j]? = some y → p y = false) : idxOf p l = (k : Int) := by
  have hk : k < l.length := (List.getElem?_eq_some_iff.1 hx).1
  have : l.findIdx? p = some k := by
    rw [List.findIdx?_eq_some_iff_getElem]
    refine ⟨hk, ?_, fun j hj => ?_⟩
    · rw [(List.getElem?_eq_some_iff.1 hx).2]; exact hp
    · have := ha j (l[j]'(by omega)) hj (List.getElem?_eq_getElem (by omega))
      simp [this]
  unfold idxOf
  rw [this]
theorem idxOf_miss {α : Type} {p : α → Bool} {l : List α} (ha : ∀ (j : Nat) (y : α), l[j]? = some y → p y = false) : idxOf p l = -1 := by
  have : l.findIdx? p = none := by
    rw [List.findIdx?_eq_none_iff]
    intro x hx
    obtain ⟨j, hj⟩ := List.getElem?_of_mem hx
    exact ha j x hj
  unfold idxOf
  rw [this]
theorem idxOf_any {α : Type} (p : α → Bool) (l : List α) : decide (0 ≤ idxOf p l) = l.any p := by
  unfold idxOf
  cases h : l.findIdx? p with
  | none =>
    have := List.findIdx?_eq_none_iff.1 h
    have e : l.any p = false := by rw [List.any_eq_false]; intro x hx; simp [this x hx]
    rw [e]; decide
  | some i =>
    obtain ⟨hi, hp, _⟩ := List.findIdx?_eq_some_iff_getElem.1 h
    have e : l.any p = true := List.any_eq_true.2 ⟨_, List.getElem_mem hi, hp⟩
    rw [e]; simp

/-- WHAT IS ASKED OF A PREDICATE over the elements of a list. -/
def PredOn {α : Type} (g : Nat) (lb : Array Value) (enc : α → Value) (p : α → Bool) (w : World) (zs : List α) : Prop :=
  ∀ (W : World) (x : α), x ∈ zs → Below w.heap.size w W → Calls Try.prog g (#[enc x] ++ lb) W fun e w' => e = .returned (.bool (p x)) ∧ Below w.heap.size w w'

set_option maxHeartbeats 1000000 in
theorem indexFunc_wr (p : Wr → Bool) (g : Nat) (lb : Array Value) (eg : ∀ args w, (callFunc g args).run Try.prog w = .ok (.enter g args) w) (ok : Nat → Prop) (A : Option Addr) (c : Nat) (zs : List Wr) (w : World)
    (hp : PredOn g lb (fun x : Wr => .agg #[.string x.key, .string x.sh, .bool x.dead]) p w zs) (hz : RdSl 3 encWr w ok A zs) (hbig : zs.length ≤ 9223372036854775807) :
    Calls Try.prog 113 #[.slice A zs.length c, .func (.func g) #[] lb] w fun e w' => e = .returned (.int .i64 (idxOf p zs)) ∧ Below w.heap.size w w' := by
  have HZ := Lib.hid hz
  clear hz
  go_enter Try.func113, Try.ntmps113
  go_wp2
  go_loopg [5, 8] zs.length (fun gg _ s8 wr => ∃ kk : Nat, kk ≤ zs.length ∧ zs.length - kk ≤ gg ∧ s8 = .int .i64 kk ∧ Aside (Below w.heap.size w wr) ∧ Aside (∀ (j : Nat) (y : Wr), j < kk → zs[j]? = some y → p y = false))
  case atStart => exact ⟨0, Nat.zero_le _, by omega, rfl, Below.refl _ w, fun j y hj => absurd hj (Nat.not_lt_zero _)⟩
  case round =>
    obtain ⟨kk, hkk, hg, rfl, BW, F⟩ := hrel
    by_cases hlt : kk < zs.length
    · have hltz : (kk : Int) < (zs.length : Int) := by omega
      obtain ⟨x, hx⟩ : ∃ x, zs[kk]? = some x := ⟨_, List.getElem?_eq_getElem hlt⟩
      obtain ⟨b, off, e, _, hb, hc⟩ := HZ.out (by intro h; simp [h] at hlt)
      subst e
      have l0 := (BW.out.cell (p := ⟨b, off + kk * 3 + 0, none⟩) hb).trans (hc kk x hx 0 _ rfl)
      have l1 := (BW.out.cell (p := ⟨b, off + kk * 3 + 1, none⟩) hb).trans (hc kk x hx 1 _ rfl)
      have l2 := (BW.out.cell (p := ⟨b, off + kk * 3 + 2, none⟩) hb).trans (hc kk x hx 2 _ rfl)
      rw [Nat.add_zero] at l0
      have hcall := hp wr x (List.mem_of_getElem? hx) BW.out
      have HX := Lib.hid hx
      clear hc hp hx
      cases hq : p x with
      | true =>
        rw [hq] at hcall
        go_wp2_with (go_at_fn g; refine hcall.mono ?_; rintro e w' ⟨rfl, hb'⟩)
        go_ret
        exact ⟨by rw [idxOf_hit HX.out hq F.out]; rfl, hb'⟩
      | false =>
        rw [hq] at hcall
        go_wp2_with (go_at_fn g; refine hcall.mono ?_; rintro e w' ⟨rfl, hb'⟩)
        go_roundg (zs.length - (kk + 1))
        case measure => omega
        case rel =>
          refine ⟨kk + 1, by omega, by omega, by go_num, hb', (show Aside _ from fun j y hj hy => ?_)⟩
          by_cases e : j = kk
          · subst e
            rw [HX.out] at hy
            cases hy
            exact hq
          · exact F.out j y (by omega) hy
    · have hltz : ¬ (kk : Int) < (zs.length : Int) := by omega
      have : kk = zs.length := by omega
      subst this
      go_wp2
      go_ret
      exact ⟨by rw [idxOf_miss (fun j y hy => F.out j y (List.getElem?_eq_some_iff.1 hy).1 hy)]; rfl, BW.out⟩

theorem containsFunc_wr (p : Wr → Bool) (g : Nat) (lb : Array Value) (eg : ∀ args w, (callFunc g args).run Try.prog w = .ok (.enter g args) w) (ok : Nat → Prop) (A : Option Addr) (c : Nat) (zs : List Wr) (w : World)
    (hp : PredOn g lb (fun x : Wr => .agg #[.string x.key, .string x.sh, .bool x.dead]) p w zs) (hz : RdSl 3 encWr w ok A zs) (hbig : zs.length ≤ 9223372036854775807) :
    Calls Try.prog 78 #[.slice A zs.length c, .func (.func g) #[] lb] w fun e w' => e = .returned (.bool (zs.any p)) ∧ Below w.heap.size w w' := by
  have hc := indexFunc_wr p g lb eg ok A c zs w hp hz hbig
  have HA := Lib.hid (idxOf_any p zs)
  clear hp hz
  go_enter Try.func78, Try.ntmps78
  go_wp2_with (go_at_call 113; refine hc.mono ?_; rintro e w' ⟨rfl, hb'⟩)
  go_ret
  exact ⟨by rw [← HA.out]; rfl, hb'⟩

set_option maxHeartbeats 1000000 in
theorem indexFunc_fin (p : Fin2 → Bool) (g : Nat) (lb : Array Value) (eg : ∀ args w, (callFunc g args).run Try.prog w = .ok (.enter g args) w) (ok : Nat → Prop) (A : Option Addr) (c : Nat) (zs : List Fin2) (w : World)
    (hp : PredOn g lb (fun x : Fin2 => .agg #[.int .i64 x.txn, .int .i64 x.ts]) p w zs) (hz : RdSl 2 encFin w ok A zs) (hbig : zs.length ≤ 9223372036854775807) :
    Calls Try.prog 69 #[.slice A zs.length c, .func (.func g) #[] lb] w fun e w' => e = .returned (.int .i64 (idxOf p zs)) ∧ Below w.heap.size w w' := by
  have HZ := Lib.hid hz
  clear hz
  go_enter Try.func69, Try.ntmps69
  go_wp2
  go_loopg [5, 8] zs.length (fun gg _ s8 wr => ∃ kk : Nat, kk ≤ zs.length ∧ zs.length - kk ≤ gg ∧ s8 = .int .i64 kk ∧ Aside (Below w.heap.size w wr) ∧ Aside (∀ (j : Nat) (y : Fin2), j < kk → zs[j]? = some y → p y = false))
  case atStart => exact ⟨0, Nat.zero_le _, by omega, rfl, Below.refl _ w, fun j y hj => absurd hj (Nat.not_lt_zero _)⟩
  case round =>
    obtain ⟨kk, hkk, hg, rfl, BW, F⟩ := hrel
    by_cases hlt : kk < zs.length
    · have hltz : (kk : Int) < (zs.length : Int) := by omega
      obtain ⟨x, hx⟩ : ∃ x, zs[kk]? = some x := ⟨_, List.getElem?_eq_getElem hlt⟩
      obtain ⟨b, off, e, _, hb, hc⟩ := HZ.out (by intro h; simp [h] at hlt)
      subst e
      have l0 := (BW.out.cell (p := ⟨b, off + kk * 2 + 0, none⟩) hb).trans (hc kk x hx 0 _ rfl)
      have l1 := (BW.out.cell (p := ⟨b, off + kk * 2 + 1, none⟩) hb).trans (hc kk x hx 1 _ rfl)
      rw [Nat.add_zero] at l0
      have hcall := hp wr x (List.mem_of_getElem? hx) BW.out
      have HX := Lib.hid hx
      clear hc hp hx
      cases hq : p x with
      | true =>
        rw [hq] at hcall
        go_wp2_with (go_at_fn g; refine hcall.mono ?_; rintro e w' ⟨rfl, hb'⟩)
        go_ret
        exact ⟨by rw [idxOf_hit HX.out hq F.out]; rfl, hb'⟩
      | false =>
        rw [hq] at hcall
        go_wp2_with (go_at_fn g; refine hcall.mono ?_; rintro e w' ⟨rfl, hb'⟩)
        go_roundg (zs.length - (kk + 1))
        case measure => omega
        case rel =>
          refine ⟨kk + 1, by omega, by omega, by go_num, hb', (show Aside _ from fun j y hj hy => ?_)⟩
          by_cases e : j = kk
          · subst e
            rw [HX.out] at hy
            cases hy
            exact hq
          · exact F.out j y (by omega) hy
    · have hltz : ¬ (kk : Int) < (zs.length : Int) := by omega
      have : kk = zs.length := by omega
      subst this
      go_wp2
      go_ret
      exact ⟨by rw [idxOf_miss (fun j y hy => F.out j y (List.getElem?_eq_some_iff.1 hy).1 hy)]; rfl, BW.out⟩

set_option maxHeartbeats 1000000 in
theorem indexFunc_str (p : ByteArray → Bool) (g : Nat) (lb : Array Value) (eg : ∀ args w, (callFunc g args).run Try.prog w = .ok (.enter g args) w) (ok : Nat → Prop) (A : Option Addr) (c : Nat) (zs : List ByteArray) (w : World)
    (hp : PredOn g lb (fun x : ByteArray => .string x) p w zs) (hz : RdSl 1 encS w ok A zs) (hbig : zs.length ≤ 9223372036854775807) :
    Calls Try.prog 112 #[.slice A zs.length c, .func (.func g) #[] lb] w fun e w' => e = .returned (.int .i64 (idxOf p zs)) ∧ Below w.heap.size w w' := by
  have HZ := Lib.hid hz
  clear hz
  go_enter Try.func112, Try.ntmps112
  go_wp2
  go_loopg [5, 8] zs.length (fun gg _ s8 wr => ∃ kk : Nat, kk ≤ zs.length ∧ zs.length - kk ≤ gg ∧ s8 = .int .i64 kk ∧ Aside (Below w.heap.size w wr) ∧ Aside (∀ (j : Nat) (y : ByteArray), j < kk → zs[j]? = some y → p y = false))
  case atStart => exact ⟨0, Nat.zero_le _, by omega, rfl, Below.refl _ w, fun j y hj => absurd hj (Nat.not_lt_zero _)⟩
  case round =>
    obtain ⟨kk, hkk, hg, rfl, BW, F⟩ := hrel
    by_cases hlt : kk < zs.length
    · have hltz : (kk : Int) < (zs.length : Int) := by omega
      obtain ⟨x, hx⟩ : ∃ x, zs[kk]? = some x := ⟨_, List.getElem?_eq_getElem hlt⟩
      obtain ⟨b, off, e, _, hb, hc⟩ := HZ.out (by intro h; simp [h] at hlt)
      subst e
      have l0 := (BW.out.cell (p := ⟨b, off + kk * 1 + 0, none⟩) hb).trans (hc kk x hx 0 _ rfl)
      rw [Nat.add_zero, Nat.mul_one] at l0
      have hcall := hp wr x (List.mem_of_getElem? hx) BW.out
      have HX := Lib.hid hx
      clear hc hp hx
      cases hq : p x with
      | true =>
        rw [hq] at hcall
        go_wp2_with (go_at_fn g; refine hcall.mono ?_; rintro e w' ⟨rfl, hb'⟩)
        go_ret
        exact ⟨by rw [idxOf_hit HX.out hq F.out]; rfl, hb'⟩
      | false =>
        rw [hq] at hcall
        go_wp2_with (go_at_fn g; refine hcall.mono ?_; rintro e w' ⟨rfl, hb'⟩)
        go_roundg (zs.length - (kk + 1))
        case measure => omega
        case rel =>
          refine ⟨kk + 1, by omega, by omega, by go_num, hb', (show Aside _ from fun j y hj hy => ?_)⟩
          by_cases e : j = kk
          · subst e
            rw [HX.out] at hy
            cases hy
            exact hq
          · exact F.out j y (by omega) hy
    · have hltz : ¬ (kk : Int) < (zs.length : Int) := by omega
      have : kk = zs.length := by omega
      subst this
      go_wp2
      go_ret
      exact ⟨by rw [idxOf_miss (fun j y hy => F.out j y (List.getElem?_eq_some_iff.1 hy).1 hy)]; rfl, BW.out⟩

theorem containsFunc_str (p : ByteArray → Bool) (g : Nat) (lb : Array Value) (eg : ∀ args w, (callFunc g args).run Try.prog w = .ok (.enter g args) w) (ok : Nat → Prop) (A : Option Addr) (c : Nat) (zs : List ByteArray) (w : World)
    (hp : PredOn g lb (fun x : ByteArray => .string x) p w zs) (hz : RdSl 1 encS w ok A zs) (hbig : zs.length ≤ 9223372036854775807) :
    Calls Try.prog 76 #[.slice A zs.length c, .func (.func g) #[] lb] w fun e w' => e = .returned (.bool (zs.any p)) ∧ Below w.heap.size w w' := by
  have hc := indexFunc_str p g lb eg ok A c zs w hp hz hbig
  have HA := Lib.hid (idxOf_any p zs)
  clear hp hz
  go_enter Try.func76, Try.ntmps76
  go_wp2_with (go_at_call 112; refine hc.mono ?_; rintro e w' ⟨rfl, hb'⟩)
  go_ret
  exact ⟨by rw [← HA.out]; rfl, hb'⟩

set_option maxHeartbeats 1000000 in
theorem indexFunc_int (p : Int → Bool) (g : Nat) (lb : Array Value) (eg : ∀ args w, (callFunc g args).run Try.prog w = .ok (.enter g args) w) (ok : Nat → Prop) (A : Option Addr) (c : Nat) (zs : List Int) (w : World)
    (hp : PredOn g lb (fun x : Int => .int .i64 x) p w zs) (hz : RdSl 1 encI w ok A zs) (hbig : zs.length ≤ 9223372036854775807) :
    Calls Try.prog 101 #[.slice A zs.length c, .func (.func g) #[] lb] w fun e w' => e = .returned (.int .i64 (idxOf p zs)) ∧ Below w.heap.size w w' := by
  have HZ := Lib.hid hz
  clear hz
  go_enter Try.func101, Try.ntmps101
  go_wp2
  go_loopg [5, 8] zs.length (fun gg _ s8 wr => ∃ kk : Nat, kk ≤ zs.length ∧ zs.length - kk ≤ gg ∧ s8 = .int .i64 kk ∧ Aside (Below w.heap.size w wr) ∧ Aside (∀ (j : Nat) (y : Int), j < kk → zs[j]? = some y → p y = false))
  case atStart => exact ⟨0, Nat.zero_le _, by omega, rfl, Below.refl _ w, fun j y hj => absurd hj (Nat.not_lt_zero _)⟩
  case round =>
    obtain ⟨kk, hkk, hg, rfl, BW, F⟩ := hrel
    by_cases hlt : kk < zs.length
    · have hltz : (kk : Int) < (zs.length : Int) := by omega
      obtain ⟨x, hx⟩ : ∃ x, zs[kk]? = some x := ⟨_, List.getElem?_eq_getElem hlt⟩
      obtain ⟨b, off, e, _, hb, hc⟩ := HZ.out (by intro h; simp [h] at hlt)
      subst e
      have l0 := (BW.out.cell (p := ⟨b, off + kk * 1 + 0, none⟩) hb).trans (hc kk x hx 0 _ rfl)
      rw [Nat.add_zero, Nat.mul_one] at l0
      have hcall := hp wr x (List.mem_of_getElem? hx) BW.out
      have HX := Lib.hid hx
      clear hc hp hx
      cases hq : p x with
      | true =>
        rw [hq] at hcall
        go_wp2_with (go_at_fn g; refine hcall.mono ?_; rintro e w' ⟨rfl, hb'⟩)
        go_ret
        exact ⟨by rw [idxOf_hit HX.out hq F.out]; rfl, hb'⟩
      | false =>
        rw [hq] at hcall
        go_wp2_with (go_at_fn g; refine hcall.mono ?_; rintro e w' ⟨rfl, hb'⟩)
        go_roundg (zs.length - (kk + 1))
        case measure => omega
        case rel =>
          refine ⟨kk + 1, by omega, by omega, by go_num, hb', (show Aside _ from fun j y hj hy => ?_)⟩
          by_cases e : j = kk
          · subst e
            rw [HX.out] at hy
            cases hy
            exact hq
          · exact F.out j y (by omega) hy
    · have hltz : ¬ (kk : Int) < (zs.length : Int) := by omega
      have : kk = zs.length := by omega
      subst this
      go_wp2
      go_ret
      exact ⟨by rw [idxOf_miss (fun j y hy => F.out j y (List.getElem?_eq_some_iff.1 hy).1 hy)]; rfl, BW.out⟩

theorem containsFunc_int (p : Int → Bool) (g : Nat) (lb : Array Value) (eg : ∀ args w, (callFunc g args).run Try.prog w = .ok (.enter g args) w) (ok : Nat → Prop) (A : Option Addr) (c : Nat) (zs : List Int) (w : World)
    (hp : PredOn g lb (fun x : Int => .int .i64 x) p w zs) (hz : RdSl 1 encI w ok A zs) (hbig : zs.length ≤ 9223372036854775807) :
    Calls Try.prog 59 #[.slice A zs.length c, .func (.func g) #[] lb] w fun e w' => e = .returned (.bool (zs.any p)) ∧ Below w.heap.size w w' := by
  have hc := indexFunc_int p g lb eg ok A c zs w hp hz hbig
  have HA := Lib.hid (idxOf_any p zs)
  clear hp hz
  go_enter Try.func59, Try.ntmps59
  go_wp2_with (go_at_call 101; refine hc.mono ?_; rintro e w' ⟨rfl, hb'⟩)
  go_ret
  exact ⟨by rw [← HA.out]; rfl, hb'⟩

end Go.Proofs.Ytokfbikiicfafaa
