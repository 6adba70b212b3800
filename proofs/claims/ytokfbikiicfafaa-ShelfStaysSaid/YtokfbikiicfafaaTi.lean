/- Arguments opened: slices of strings, of writes and of records as lists, with their sizes. -/
import Derived.Test.YtokfbikiicfafaaTf
import Derived.Deep.Slices
import Derived.Deep.Fields
import Derived.ChangeSame
import Derived.SliceStrings
import Derived.SizedLaws
namespace Go.Proofs.Ytokfbikiicfafaa
open Go.RowKit Go.Maps
open Go.ChangeShapes Go.WideShapes Go.Deep
set_option linter.unusedVariables false

section
variable {H : Type} {enc : TypeId × Value → H} {P : Program} {w : World} {base : Nat} {spare : Nat → Bool} {held : Bool}
theorem open_slice_fields {t e : TypeId} {fs : Array Field} {fuel : Nat} {cs : List Value} {x : DataW H × List MemPlace} (ht : P.underlying t = some (.slice e)) (he : P.underlying e = some (.struct fs))
    (hone : oneCellFields P fs = true) (hC : P.cellsOf e = fs.size) (h : DataW.trod enc P w base spare held fuel t cs = some x) :
    (cs = [.slice none 0 0] ∧ x = (.nil, [])) ∨
    ∃ (a : Addr) (len cap m : Nat) (D : Nat → DataW H) (Pl : Nat → List MemPlace), cs = [.slice (some a) len cap] ∧ base ≤ a.block ∧ len ≤ cap ∧ cap ≤ maxLen ∧ m = (if spare a.block then cap else len) ∧
      x = (.slice ((List.range len).map D) ((List.range (m - len)).map fun j => D (len + j)), MemPlace.row a (m * fs.size) ++ (List.range m).flatMap Pl) ∧
      ∀ i, i < m → ∃ (ys : List (DataW H × List MemPlace)) (n : Nat), D i = .agg (ys.map (·.1)) ∧ Pl i = ys.flatMap (·.2) ∧ ys.length = fs.size ∧
        ∀ (j : Nat) (f : Field), fs[j]? = some f → ∃ (v : Value) (y : DataW H × List MemPlace), w.cell? (a.add (i * fs.size + j)) = some v ∧ ys[j]? = some y ∧ DataW.trod enc P w base spare held n f.type [v] = some y := by
  rcases open_slice ht h with h0 | ⟨a, len, cap, m, n, D, Pl, hcs, hb, hl, hm, hmm, hx, hi⟩
  · exact .inl h0
  · refine .inr ⟨a, len, cap, m, D, Pl, hcs, hb, hl, hm, hmm, by rw [hC] at hx; exact hx, fun i him => ?_⟩
    obtain ⟨cs', hc, ht'⟩ := hi i him
    rw [hC] at hc
    obtain ⟨ys, n', hn', hy, hlen, hyl, hf⟩ := DataW.trod_struct he ht'
    obtain ⟨_, hcl, hat⟩ := World.cells?_some hc
    simp only [Prod.mk.injEq] at hy
    refine ⟨ys, n', hy.1, hy.2, hyl, fun j f hj => ?_⟩
    obtain ⟨ho, hk⟩ := hone_of hone j f hj
    have hjl : j < fs.size := (Array.getElem?_eq_some_iff.1 hj).1
    have hcell := hat j hjl
    have hv : cs'[j]? = some (cs'[j]'(by omega)) := List.getElem?_eq_getElem (by omega)
    have h1 := hf j f hj
    rw [ho, hk] at h1
    have hone' : (cs'.drop j).take 1 = [cs'[j]'(by omega)] := by
      rw [List.drop_eq_getElem_cons (by omega)]
      rfl
    rw [hone'] at h1
    have hys : ys[j]? = some (ys[j]'(by omega)) := List.getElem?_eq_getElem (by omega)
    refine ⟨_, _, ?_, hys, h1.trans hys⟩
    rw [← Go.Deep.add_add, hcell, hv]

/-! ### Weights -/
/-- No string, slice or map in what was read is larger than the reach. -/
def WOk (P : Program) (t : TypeId) (d : DataW H) : Prop := ∀ n ∈ d.weights P t, n ≤ reachBytes
theorem mem_all {e : TypeId} : ∀ {es : List (DataW H)} {d : DataW H} {n : Nat}, d ∈ es → n ∈ d.weights P e → n ∈ DataW.weightsAll P e es
  | [], _, _, h, _ => by cases h
  | x :: es, d, n, h, hn => by
    simp only [DataW.weightsAll, List.mem_append]
    rcases List.mem_cons.1 h with rfl | h
    · exact .inl hn
    · exact .inr (mem_all h hn)
theorem WOk.slice {t e : TypeId} {es sp : List (DataW H)} (h : WOk P t (.slice es sp)) (hu : P.underlying t = some (.slice e)) : (es.length + sp.length) * P.bytesOf e ≤ reachBytes ∧ ∀ d ∈ es, WOk P e d := by
  refine ⟨h _ (by simp [DataW.weights, hu]), fun d hd n hn => h n ?_⟩
  simp only [DataW.weights, hu, List.mem_cons, List.mem_append]
  exact .inr (.inl (mem_all hd hn))
theorem WOk.agg {t : TypeId} {fs : Array Field} {ds : List (DataW H)} (h : WOk P t (.agg ds)) (hu : P.underlying t = some (.struct fs)) {i : Nat} {f : Field} {d : DataW H} (hf : fs[i]? = some f) (hd : ds[i]? = some d) : WOk P f.type d := fun n hn => h n (by
  simp only [DataW.weights, hu]
  exact DataW.weights_mem_each (by simp [hf]) hd n hn)
theorem WOk.str {t : TypeId} {bs : List UInt8} (h : WOk P t (.lit (.string bs) : DataW H)) : bs.length ≤ reachBytes := h _ (by simp [DataW.weights])
theorem WOk.of_each {ts : List TypeId} {ds : List (DataW H)} (h : (DataW.weightsEach P ts ds).all (· ≤ reachBytes) = true) {j : Nat} {t : TypeId} {d : DataW H} (ht : ts[j]? = some t) (hd : ds[j]? = some d) : WOk P t d := fun n hn => by
  have := List.all_eq_true.1 h _ (DataW.weights_mem_each ht hd n hn)
  simpa using this

theorem list_of {α : Type} {Q : Nat → α → Prop} : ∀ (n : Nat), (∀ i, i < n → ∃ x, Q i x) → ∃ l : List α, l.length = n ∧ ∀ i x, l[i]? = some x → Q i x
  | 0, _ => ⟨[], rfl, by simp⟩
  | n + 1, h => by
    obtain ⟨l, hl, hq⟩ := list_of n (fun i hi => h i (by omega))
    obtain ⟨x, hx⟩ := h n (by omega)
    refine ⟨l ++ [x], by simp [hl], fun i y hy => ?_⟩
    by_cases hi : i < l.length
    · rw [List.getElem?_append_left hi] at hy
      exact hq i y hy
    · rw [List.getElem?_append_right (by omega)] at hy
      have e : i - l.length = 0 := by
        cases hj : i - l.length with
        | zero => rfl
        | succ m => rw [hj] at hy; simp at hy
      rw [e] at hy
      simp at hy
      subst hy
      have : i = n := by omega
      rw [this]
      exact hx
end

theorem addr_none {w : World} {a : Addr} {v : Value} (h : w.cell? (a.add 0) = some v) : ∃ b off, a = ⟨b, off, none⟩ := by
  obtain ⟨b, off, spot⟩ := a
  simp only [Addr.add, if_true] at h
  cases spot with
  | none => exact ⟨b, off, rfl⟩
  | some s =>
    unfold World.cell? at h
    split at h
    · simp at h
    · cases h
theorem addr_add (b off n : Nat) : (⟨b, off, none⟩ : Addr).add n = ⟨b, off + n, none⟩ := by unfold Addr.add; split <;> simp_all

section
variable {H : Type} {enc : TypeId × Value → H} {W : World}
noncomputable abbrev Rdd (enc : TypeId × Value → H) (W : World) (fuel : Nat) (t : TypeId) (cs : List Value) : Option (DataW H × List MemPlace) := DataW.trod enc Try.prog W 0 (fun _ => true) true fuel t cs

/-- A slice of strings. -/
theorem open_strs {fuel : Nat} {v : Value} {y : DataW H × List MemPlace} (h : Rdd enc W fuel 32 [v] = some y) (hw : WOk Try.prog 32 y.1) :
    ∃ xs : List ByteArray, RdV 1 encS W (fun b => b < W.heap.size) v xs ∧ xs.length * 16 ≤ 140737488351232 := by
  rcases open_strings Try.underlying32 Try.underlying9 (by kernel_rfl) h with ⟨hc, _⟩ | ⟨a, len, cap, ss, hc, _, hl, hm, hs, hx, hcell, hz⟩
  · cases hc
    exact ⟨[], RdV.nil _ _ _ _, by simp⟩
  · cases hc
    simp only [if_true] at hs
    have hlen : (ss.take len).length = len := by rw [List.length_take]; omega
    refine ⟨ss.take len, ⟨some a, cap, by rw [hlen], by rw [hlen]; exact hl, (fun e => by cases e), fun hne => ?_⟩, ?_⟩
    · have h0 : 0 < len := by
        rw [← hlen]
        exact List.length_pos_iff.2 hne
      obtain ⟨b, off, rfl⟩ := addr_none (hcell 0 (by omega))
      refine ⟨b, off, rfl, World.block_lt_of_cell? W _ (hcell 0 (by omega)), World.block_lt_of_cell? W _ (hcell 0 (by omega)), fun j x hj i u hu => ?_⟩
      have hj' := (List.getElem?_eq_some_iff.1 hj).1
      have hi : i = 0 := by
        have := (List.getElem?_eq_some_iff.1 hu).1
        simp [encS] at this
        omega
      subst hi
      simp [encS] at hu
      subst hu
      have := hcell j (by omega)
      rw [addr_add] at this
      rw [Nat.mul_one, Nat.add_zero, this]
      rw [List.getElem?_take_of_lt (by omega)] at hj
      rw [List.getD_eq_getElem?_getD, hj]
      rfl
    · rw [hx] at hw
      have := (hw.slice Try.underlying32).1
      have e : Try.prog.bytesOf 9 = 16 := by kernel_rfl
      rw [e] at this
      have el : (strs (H := H) (ss.take len)).length = len := by
        unfold strs
        rw [List.length_map, hlen]
      rw [el] at this
      rw [hlen]
      unfold reachBytes at this
      omega

/-- A slice of writes. -/
theorem open_wrs {fuel : Nat} {v : Value} {y : DataW H × List MemPlace} (h : Rdd enc W fuel 33 [v] = some y) (hw : WOk Try.prog 33 y.1) :
    ∃ xs : List Wr, RdV 3 encWr W (fun b => b < W.heap.size) v xs ∧ xs.length * 40 ≤ 140737488351232 := by
  rcases open_slice_fields Try.underlying33 Try.underlying56 (by kernel_rfl) (by kernel_rfl) h with ⟨hc, _⟩ | ⟨a, len, cap, m, D, Pl, hc, _, hl, hm, hmm, hx, hi⟩
  · cases hc
    exact ⟨[], RdV.nil _ _ _ _, by simp⟩
  · cases hc
    simp only [if_true] at hmm
    obtain ⟨xs, hlen, hq⟩ := list_of (Q := fun j (x : Wr) => ∀ i u, (encWr x)[i]? = some u → W.cell? (a.add (j * 3 + i)) = some u) len (fun j hj => by
      obtain ⟨ys, n, _, _, _, hf⟩ := hi j (by omega)
      obtain ⟨v0, y0, c0, _, t0⟩ := hf 0 _ rfl
      obtain ⟨v1, y1, c1, _, t1⟩ := hf 1 _ rfl
      obtain ⟨v2, y2, c2, _, t2⟩ := hf 2 _ rfl
      obtain ⟨s0, e0, _, _⟩ := DataW.trod_string Try.underlying9 t0
      obtain ⟨s1, e1, _, _⟩ := DataW.trod_string Try.underlying9 t1
      obtain ⟨s2, e2, _⟩ := DataW.trod_bool Try.underlying4 t2
      cases e0
      cases e1
      cases e2
      refine ⟨⟨s0, s1, s2⟩, fun i u hu => ?_⟩
      match i, hu with
      | 0, hu => cases hu; exact c0
      | 1, hu => cases hu; exact c1
      | 2, hu => cases hu; exact c2)
    refine ⟨xs, ⟨some a, cap, by rw [hlen], by rw [hlen]; exact hl, (fun e => by cases e), fun hne => ?_⟩, ?_⟩
    · have h0 : 0 < len := by
        rw [← hlen]
        exact List.length_pos_iff.2 hne
      obtain ⟨x0, hx0⟩ : ∃ x, xs[0]? = some x := ⟨_, List.getElem?_eq_getElem (by omega)⟩
      have hc0 := hq 0 x0 hx0 0 _ rfl
      rw [Nat.zero_mul, Nat.zero_add] at hc0
      obtain ⟨b, off, rfl⟩ := addr_none hc0
      rw [addr_add] at hc0
      refine ⟨b, off, rfl, World.block_lt_of_cell? W _ hc0, World.block_lt_of_cell? W _ hc0, fun j x hj i u hu => ?_⟩
      have := hq j x hj i u hu
      rw [addr_add] at this
      rw [Nat.add_assoc, this]
    · rw [hx] at hw
      have := (hw.slice Try.underlying33).1
      have e : Try.prog.bytesOf 56 = 40 := by kernel_rfl
      rw [e] at this
      simp only [List.length_map, List.length_range] at this
      rw [hlen]
      unfold reachBytes at this
      omega

/-- A slice of records. -/
theorem open_recs {fuel : Nat} {v : Value} {y : DataW H × List MemPlace} (h : Rdd enc W fuel 22 [v] = some y) (hw : WOk Try.prog 22 y.1) :
    ∃ (A : Option Addr) (c : Nat) (rs : List Rec), v = .slice A rs.length c ∧ RdRecs W (fun b => b < W.heap.size) A rs ∧ SmallRs rs ∧ rs.length ≤ 9223372036854775807 := by
  rcases open_slice_fields Try.underlying22 Try.underlying35 (by kernel_rfl) (by kernel_rfl) h with ⟨hc, _⟩ | ⟨a, len, cap, m, D, Pl, hc, _, hl, hm, hmm, hx, hi⟩
  · cases hc
    exact ⟨none, 0, [], rfl, fun h => absurd rfl h, (fun r hr => by cases hr), by simp⟩
  · cases hc
    simp only [if_true] at hmm
    rw [hx] at hw
    obtain ⟨hw1, hw2⟩ := hw.slice Try.underlying22
    obtain ⟨rs, hlen, hq⟩ := list_of (Q := fun j (r : Rec) => ∃ v7 v8, (∀ i u, (recCells r v7 v8)[i]? = some u → W.cell? (a.add (j * 9 + i)) = some u) ∧ RdV 1 encS W (fun b => b < W.heap.size) v7 r.keys ∧ RdV 3 encWr W (fun b => b < W.heap.size) v8 r.writes ∧ r.keys.length * 16 ≤ 140737488351232 ∧ r.writes.length * 40 ≤ 140737488351232) len (fun j hj => by
      obtain ⟨ys, n, hD, _, hyl, hf⟩ := hi j (by omega)
      obtain ⟨v0, y0, c0, _, t0⟩ := hf 0 _ rfl
      obtain ⟨v1, y1, c1, _, t1⟩ := hf 1 _ rfl
      obtain ⟨v2, y2, c2, _, t2⟩ := hf 2 _ rfl
      obtain ⟨v3, y3, c3, _, t3⟩ := hf 3 _ rfl
      obtain ⟨v4, y4, c4, _, t4⟩ := hf 4 _ rfl
      obtain ⟨v5, y5, c5, _, t5⟩ := hf 5 _ rfl
      obtain ⟨v6, y6, c6, _, t6⟩ := hf 6 _ rfl
      obtain ⟨v7, y7, c7, e7, t7⟩ := hf 7 _ rfl
      obtain ⟨v8, y8, c8, e8, t8⟩ := hf 8 _ rfl
      have hwj : WOk Try.prog 35 (D j) := hw2 (D j) (List.mem_map.2 ⟨j, List.mem_range.2 hj, rfl⟩)
      rw [hD] at hwj
      obtain ⟨n0, q0, _, _⟩ := DataW.trod_int Try.underlying3 t0
      obtain ⟨n1, q1, _, _⟩ := DataW.trod_int Try.underlying3 t1
      obtain ⟨n2, q2, _, _⟩ := DataW.trod_int Try.underlying3 t2
      obtain ⟨n3, q3, _, _⟩ := DataW.trod_int Try.underlying3 t3
      obtain ⟨s4, q4, _, _⟩ := DataW.trod_string Try.underlying9 t4
      obtain ⟨s5, q5, _, _⟩ := DataW.trod_string Try.underlying9 t5
      obtain ⟨b6, q6, _⟩ := DataW.trod_bool Try.underlying4 t6
      obtain ⟨ks, hks, hkl⟩ := open_strs t7 (hwj.agg Try.underlying35 (i := 7) rfl (by rw [List.getElem?_map, e7]; rfl))
      obtain ⟨ws, hws, hwl⟩ := open_wrs t8 (hwj.agg Try.underlying35 (i := 8) rfl (by rw [List.getElem?_map, e8]; rfl))
      cases q0
      cases q1
      cases q2
      cases q3
      cases q4
      cases q5
      cases q6
      refine ⟨⟨n0, n1, n2, n3, s4, s5, b6, ks, ws⟩, v7, v8, fun i u hu => ?_, hks, hws, hkl, hwl⟩
      match i, hu with
      | 0, hu => cases hu; exact c0
      | 1, hu => cases hu; exact c1
      | 2, hu => cases hu; exact c2
      | 3, hu => cases hu; exact c3
      | 4, hu => cases hu; exact c4
      | 5, hu => cases hu; exact c5
      | 6, hu => cases hu; exact c6
      | 7, hu => cases hu; exact c7
      | 8, hu => cases hu; exact c8)
    refine ⟨some a, cap, rs, by rw [hlen], fun hne => ?_, fun r hr => ?_, ?_⟩
    · have h0 : 0 < len := by
        rw [← hlen]
        exact List.length_pos_iff.2 hne
      obtain ⟨x0, hx0⟩ : ∃ x, rs[0]? = some x := ⟨_, List.getElem?_eq_getElem (by omega)⟩
      obtain ⟨_, _, hq0, _⟩ := hq 0 x0 hx0
      have hc0 := hq0 0 _ rfl
      rw [Nat.zero_mul, Nat.zero_add] at hc0
      obtain ⟨b, off, rfl⟩ := addr_none hc0
      rw [addr_add] at hc0
      refine ⟨b, off, rfl, World.block_lt_of_cell? W _ hc0, World.block_lt_of_cell? W _ hc0, fun j r hj => ?_⟩
      obtain ⟨v7, v8, h1, h2, h3, _, _⟩ := hq j r hj
      refine ⟨v7, v8, fun i u hu => ?_, h2, h3⟩
      have := h1 i u hu
      rw [addr_add] at this
      rw [Nat.add_assoc, this]
    · obtain ⟨j, hj⟩ := List.getElem?_of_mem hr
      obtain ⟨_, _, _, _, _, h4, h5⟩ := hq j r hj
      exact ⟨h4, h5⟩
    · unfold maxLen at hm
      omega
end
end Go.Proofs.Ytokfbikiicfafaa
