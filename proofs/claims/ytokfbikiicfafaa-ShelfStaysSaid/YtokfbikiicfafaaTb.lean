/- Plain law: what Apply makes of a shelf; the shelf's invariant. No program in sight. -/
import Derived.Test.YtokfbikiicfafaaTa
import Derived.Sort.Walk0
import Derived.Lib.Strings
namespace Go.Proofs.Ytokfbikiicfafaa
open Go.RowKit Go.Maps
set_option linter.unusedVariables false

/-! ### Maps -/
theorem KeysOk.tidy {H : Type} {D : DataW H} (h : KeysOk D) : Maps.Tidy D := by
  obtain ⟨es, e, hp, _⟩ := h
  exact ⟨es, e, hp⟩
theorem KeysOk.isMap {H : Type} {D : DataW H} (h : KeysOk D) : Maps.IsMap D := h.tidy.isMap
theorem isKeyS (s : List UInt8) : WideAt.IsKeyLit (.string s) := trivial
theorem isKeyI (k : IntKind) (n : Int) : WideAt.IsKeyLit (.int k n) := trivial
theorem KeysOk.empty {H : Type} : KeysOk (.map [] : DataW H) := ⟨[], rfl, List.Pairwise.nil, by simp⟩
theorem mem_insert {H : Type} {x y : Lit × DataW H} : ∀ {l : List (Lit × DataW H)}, x ∈ DataW.insert y l ↔ x = y ∨ x ∈ l
  | [] => by simp [DataW.insert]
  | z :: l => by
    unfold DataW.insert
    split
    · simp
    · simp only [List.mem_cons, mem_insert (l := l)]
      constructor
      · rintro (h | h | h)
        · exact .inr (.inl h)
        · exact .inl h
        · exact .inr (.inr h)
      · rintro (h | h | h)
        · exact .inr (.inl h)
        · exact .inl h
        · exact .inr (.inr h)
theorem KeysOk.put {H : Type} {D : DataW H} (h : KeysOk D) {k : Lit} (hk : WideAt.IsKeyLit k) (d : DataW H) : KeysOk (D.put k d) := by
  obtain ⟨es, e, hp⟩ := h.tidy.put hk d
  refine ⟨es, e, hp, fun p hpm => ?_⟩
  obtain ⟨es0, rfl, _, hk0⟩ := h
  rw [DataW.put_eq] at e
  cases e
  unfold ChangeMaps.putKey at hpm
  rcases mem_insert.1 hpm with rfl | hm
  · exact hk
  · exact hk0 p (List.mem_filter.1 hm).1
theorem KeysOk.del {H : Type} {D : DataW H} (h : KeysOk D) (k : Lit) : KeysOk (D.del k) := by
  obtain ⟨es, rfl, hp, hk⟩ := h
  rw [DataW.del_eq]
  exact ⟨_, rfl, hp.filter _, fun p hpm => hk p (List.mem_filter.1 hpm).1⟩
theorem toList_inj {a b : ByteArray} (h : a.data.toList = b.data.toList) : a = b := by
  cases a
  cases b
  simp at h
  rw [h]
theorem lit_inj {a b : ByteArray} (h : (Lit.string a.data.toList) = .string b.data.toList) : a = b := by
  injection h with h
  exact toList_inj h
theorem eqS_iff {a b : ByteArray} : eqS a b = true ↔ a = b := by
  unfold eqS
  rw [Lib.toList_data, Lib.toList_data]
  constructor
  · intro h
    exact toList_inj (by simpa using h)
  · rintro rfl
    simp

/-! ### Records -/
theorem ltS_of {s q : ByteArray} (h : leS s q = false) : q.data.toList < s.data.toList := by
  unfold leS at h
  rw [bytesLess_eq, Lib.toList_data, Lib.toList_data] at h
  simp at h
  obtain ⟨h1, h2⟩ := h
  have h1' : q.data.toList ≤ s.data.toList := by simpa [List.not_lt] using h1
  exact Std.lt_of_le_of_ne h1' (fun e => h2 (congrArg Array.mk e.symm |> fun e => by simpa using e))
theorem rising_lt : ∀ {l : List ByteArray} {p : Option ByteArray}, risingFrom p l = true → (∀ q, p = some q → ∀ x ∈ l, q.data.toList < x.data.toList) ∧ l.Pairwise (fun a b => a.data.toList < b.data.toList) ∧ ∀ x ∈ l, keyB x = true
  | [], _, _ => ⟨by simp, List.Pairwise.nil, by simp⟩
  | s :: r, p, h => by
    rw [risingFrom_cons] at h
    simp only [Bool.and_eq_true] at h
    obtain ⟨⟨hk, hl⟩, hr⟩ := h
    obtain ⟨i1, i2, i3⟩ := rising_lt hr
    refine ⟨fun q hq x hx => ?_, List.pairwise_cons.2 ⟨fun x hx => i1 s rfl x hx, i2⟩, fun x hx => ?_⟩
    · subst hq
      have h0 : q.data.toList < s.data.toList := ltS_of (by simpa using hl)
      rcases List.mem_cons.1 hx with rfl | hx
      · exact h0
      · exact Std.lt_trans h0 (i1 s rfl x hx)
    · rcases List.mem_cons.1 hx with rfl | hx
      · exact hk
      · exact i3 x hx
theorem rising_ne {l : List ByteArray} (h : risingB l = true) : l.Pairwise (fun a b => a ≠ b) := by
  refine (rising_lt h).2.1.imp fun {a b} hab e => ?_
  subst e
  exact absurd hab (List.lt_irrefl _)
end Go.Proofs.Ytokfbikiicfafaa
