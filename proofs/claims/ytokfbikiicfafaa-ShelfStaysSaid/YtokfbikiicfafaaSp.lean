/- Plain law: chains of versions: which may be, what counts at a time, what a sweep leaves. No program in sight. -/
import Derived.Test.YtokfbikiicfafaaSb
namespace Go.Proofs.Ytokfbikiicfafaa

structure VerOk (v : Ver) : Prop where
  lo : 1 ≤ v.ts
  hi : v.ts ≤ 1125899906842624
  sh : v.sh.size ≤ 2052
  dead : v.dead = true → v.sh.toList = []

structure ChainOk (l : List Ver) : Prop where
  len : l.length ≤ 1024
  vers : ∀ v ∈ l, VerOk v
  rise : l.Pairwise (fun a b => a.ts < b.ts)

theorem ChainOk.lt {l : List Ver} (h : ChainOk l) {i j : Nat} {x y : Ver} (hx : l[i]? = some x) (hy : l[j]? = some y) (hij : i < j) : x.ts < y.ts := by
  obtain ⟨hi, rfl⟩ := List.getElem?_eq_some_iff.1 hx
  obtain ⟨hj, rfl⟩ := List.getElem?_eq_some_iff.1 hy
  exact List.pairwise_iff_getElem.1 h.rise i j hi hj hij

theorem ChainOk.nil : ChainOk [] := ⟨by simp, by simp, List.Pairwise.nil⟩
theorem ChainOk.one {v : Ver} (h : VerOk v) : ChainOk [v] := ⟨by simp, by simpa using h, by simp⟩

/-- The time of the last version; 0: there is none. -/
def lastTs (l : List Ver) : Int := match l.getLast? with | some v => v.ts | none => 0

theorem lastTs_of {l : List Ver} {v : Ver} (h : l[l.length - 1]? = some v) : lastTs l = v.ts := by
  unfold lastTs
  rw [List.getLast?_eq_getElem?, h]
theorem ChainOk.le_last {l : List Ver} (h : ChainOk l) {v : Ver} (hv : v ∈ l) : v.ts ≤ lastTs l := by
  obtain ⟨i, hi⟩ := List.getElem?_of_mem hv
  have hlt := (List.getElem?_eq_some_iff.1 hi).1
  obtain ⟨z, hz⟩ : ∃ z, l[l.length - 1]? = some z := ⟨_, List.getElem?_eq_getElem (by omega)⟩
  rw [lastTs_of hz]
  by_cases e : i = l.length - 1
  · subst e
    rw [hi] at hz
    cases hz
    exact Int.le_refl _
  · exact Int.le_of_lt (h.lt hi hz (by omega))

theorem ChainOk.snoc {l : List Ver} (h : ChainOk l) {v : Ver} (hv : VerOk v) (hl : l.length < 1024) (ht : lastTs l < v.ts) : ChainOk (l ++ [v]) := by
  refine ⟨by simp; omega, fun x hx => ?_, ?_⟩
  · rcases List.mem_append.1 hx with hx | hx
    · exact h.vers x hx
    · rw [List.mem_singleton.1 hx]; exact hv
  · rw [List.pairwise_append]
    refine ⟨h.rise, by simp, fun a ha b hb => ?_⟩
    rw [List.mem_singleton.1 hb]
    exact Int.lt_of_le_of_lt (h.le_last ha) ht
theorem ChainOk.drop {l : List Ver} (h : ChainOk l) (n : Nat) : ChainOk (l.drop n) :=
  ⟨by have := h.len; simp; omega, fun v hv => h.vers v (List.mem_of_mem_drop hv), h.rise.sublist (List.drop_sublist n l)⟩

/-- How many versions are not above a time. -/
def upto (l : List Ver) (t : Int) : Nat := (l.takeWhile (fun v => decide (v.ts ≤ t))).length

theorem upto_le (l : List Ver) (t : Int) : upto l t ≤ l.length := (List.takeWhile_prefix _).length_le
theorem upto_below : ∀ {l : List Ver} {t : Int} {i : Nat} {x : Ver}, l[i]? = some x → i < upto l t → x.ts ≤ t
  | [], _, _, _, h, _ => by simp at h
  | v :: l, t, i, x, h, hi => by
    unfold upto at hi
    rw [List.takeWhile_cons] at hi
    split at hi
    · rename_i hv
      cases i with
      | zero => simp at h; subst h; simpa using hv
      | succ i => exact upto_below (l := l) (t := t) (i := i) (by simpa using h) (by simpa [upto] using hi)
    · simp at hi
theorem upto_end : ∀ {l : List Ver} {t : Int} {y : Ver}, l[upto l t]? = some y → t < y.ts
  | [], _, _, h => by simp at h
  | v :: l, t, y, h => by
    unfold upto at h
    rw [List.takeWhile_cons] at h
    split at h
    · exact upto_end (l := l) (t := t) (by simpa [upto] using h)
    · rename_i hv
      simp at h
      subst h
      simpa using hv
theorem upto_above {l : List Ver} (hl : ChainOk l) {t : Int} {i : Nat} {x : Ver} (h : l[i]? = some x) (hi : upto l t ≤ i) : t < x.ts := by
  have hlt := (List.getElem?_eq_some_iff.1 h).1
  obtain ⟨y, hy⟩ : ∃ y, l[upto l t]? = some y := ⟨_, List.getElem?_eq_getElem (by omega)⟩
  have hy' := upto_end hy
  by_cases e : i = upto l t
  · subst e
    rw [hy] at h
    cases h
    exact hy'
  · exact Int.lt_trans hy' (hl.lt hy h (by omega))
theorem upto_eq {l : List Ver} (hl : ChainOk l) {t : Int} {n : Nat} (hn : n ≤ l.length) (h1 : ∀ i x, i < n → l[i]? = some x → x.ts ≤ t) (h2 : ∀ i x, n ≤ i → l[i]? = some x → t < x.ts) : upto l t = n := by
  have hle := upto_le l t
  by_cases h : upto l t < n
  · obtain ⟨y, hy⟩ : ∃ y, l[upto l t]? = some y := ⟨_, List.getElem?_eq_getElem (by omega)⟩
    have a := h1 _ y h hy
    have b := upto_above hl hy (Nat.le_refl _)
    omega
  · by_cases h' : n < upto l t
    · obtain ⟨y, hy⟩ : ∃ y, l[n]? = some y := ⟨_, List.getElem?_eq_getElem (by omega)⟩
      have a := h2 _ y (Nat.le_refl _) hy
      have b := upto_below hy h'
      omega
    · omega

/-- What counts at a time. -/
def atTs (l : List Ver) (t : Int) : Option Ver := if upto l t = 0 then none else l[upto l t - 1]?

/-- How many a sweep strikes. -/
def struck (l : List Ver) (t : Int) : Nat := if upto l t = 0 then 0 else match l[upto l t - 1]? with | some v => if v.dead then upto l t else upto l t - 1 | none => upto l t
def sweepTs (l : List Ver) (t : Int) : List Ver := l.drop (struck l t)
theorem struck_le (l : List Ver) (t : Int) : struck l t ≤ upto l t := by
  unfold struck
  split
  · omega
  · split
    · split <;> omega
    · omega

end Go.Proofs.Ytokfbikiicfafaa
