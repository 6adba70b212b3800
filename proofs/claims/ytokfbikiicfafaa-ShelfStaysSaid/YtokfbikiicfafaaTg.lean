/- Plain law: what is read of a time stays, whatever decisions with later times and sweeps below that time or an earlier one come. -/
import Derived.Test.YtokfbikiicfafaaTf
namespace Go.Proofs.Ytokfbikiicfafaa
open Go.RowKit Go.Maps
set_option linter.unusedVariables false

def codeOf (a : Option Ver) : Int × Ver := match a with | none => (0, noVer) | some x => if x.dead = true then (2, x) else (1, x)
theorem read_of {S : ShS} {key : ByteArray} {t : Int} (h : S.over ≤ t) : readOf S key t = if heldIn S.P (hit key false) = true then (3, noVer) else codeOf (atTs (chain S.K key) t) := by
  unfold readOf
  rw [if_neg (by omega)]
  cases atTs (chain S.K key) t <;> rfl

theorem takeWhile_app {p : Ver → Bool} : ∀ (l m : List Ver), (∀ x ∈ m, p x = false) → (l ++ m).takeWhile p = l.takeWhile p
  | [], m, h => by
    cases m with
    | nil => rfl
    | cons x m => rw [List.nil_append, List.takeWhile_cons, h x List.mem_cons_self]; rfl
  | a :: l, m, h => by
    rw [List.cons_append, List.takeWhile_cons, List.takeWhile_cons, takeWhile_app l m h]
theorem upto_app {l m : List Ver} {t : Int} (h : ∀ x ∈ m, t < x.ts) : upto (l ++ m) t = upto l t := by
  unfold upto
  rw [takeWhile_app l m (fun x hx => decide_eq_false (by have := h x hx; omega))]
theorem at_app {l m : List Ver} {t : Int} (h : ∀ x ∈ m, t < x.ts) : atTs (l ++ m) t = atTs l t := by
  unfold atTs
  rw [upto_app h]
  have := upto_le l t
  split
  · rfl
  · rw [List.getElem?_append_left (by omega)]

theorem chain_putS : ∀ (l : List Wr) (K : DataW (List Ver)) (ts : Int) (key : ByteArray), KeysOk K → ∃ m, chain (putS K l ts) key = chain K key ++ m ∧ ∀ x ∈ m, x.ts = ts
  | [], K, ts, key, _ => ⟨[], by simp [putS], by simp⟩
  | y :: l, K, ts, key, h => by
    obtain ⟨m, e, hm⟩ := chain_putS l (putOne K y ts) ts key (h.put (isKeyS _) _)
    show ∃ m, chain (putS (putOne K y ts) l ts) key = _ ∧ _
    rw [e]
    by_cases hk : y.key = key
    · subst hk
      refine ⟨⟨ts, y.sh, y.dead⟩ :: m, ?_, fun x hx => ?_⟩
      · rw [chain_eq]
        unfold putOne
        rw [lst_put_same h]
        simp
      · rcases List.mem_cons.1 hx with rfl | hx
        · rfl
        · exact hm x hx
    · refine ⟨m, ?_, hm⟩
      rw [chain_eq]
      unfold putOne
      rw [lst_put_other (fun e => hk (lit_inj e).symm), ← chain_eq]
theorem at_putS {K : DataW (List Ver)} (h : KeysOk K) (l : List Wr) {ts t : Int} (key : ByteArray) (ht : t < ts) : atTs (chain (putS K l ts) key) t = atTs (chain K key) t := by
  obtain ⟨m, e, hm⟩ := chain_putS l K ts key h
  rw [e, at_app (fun x hx => by rw [hm x hx]; exact ht)]

theorem upto_mono {l : List Ver} (h : ChainOk l) {s t : Int} (hst : s ≤ t) : upto l s ≤ upto l t := by
  by_cases hh : upto l s ≤ upto l t
  · exact hh
  · have h1 := upto_le l s
    obtain ⟨y, hy⟩ : ∃ y, l[upto l t]? = some y := ⟨_, List.getElem?_eq_getElem (by omega)⟩
    have a := upto_end hy
    have b := upto_below hy (by omega : upto l t < upto l s)
    omega
theorem upto_drop {l : List Ver} (h : ChainOk l) {t : Int} {k : Nat} (hk : k ≤ upto l t) : upto (l.drop k) t = upto l t - k := by
  have h1 := upto_le l t
  refine upto_eq (h.drop k) (by rw [List.length_drop]; omega) (fun i x hi hx => ?_) (fun i x hi hx => ?_)
  · rw [List.getElem?_drop] at hx
    exact upto_below hx (by omega)
  · rw [List.getElem?_drop] at hx
    exact upto_above h hx (by omega)
theorem at_sweep {l : List Ver} (h : ChainOk l) {s t : Int} (hst : s ≤ t) : atTs (sweepTs l s) t = atTs l t ∨ ((∃ x, atTs l t = some x ∧ x.dead = true) ∧ atTs (sweepTs l s) t = none) := by
  have hm := upto_mono h hst
  have hk := struck_le l s
  have hu := upto_drop h (t := t) (k := struck l s) (by omega)
  have e0 : atTs (sweepTs l s) t = if upto l t - struck l s = 0 then none else l[upto l t - 1]? := by
    unfold atTs sweepTs
    rw [hu]
    split
    · rfl
    · rw [List.getElem?_drop]
      congr 1
      omega
  by_cases hz : upto l t - struck l s = 0
  · rw [if_pos hz] at e0
    by_cases hU : upto l t = 0
    · left
      rw [e0]
      unfold atTs
      rw [if_pos hU]
    · right
      refine ⟨?_, e0⟩
      have hlt := upto_le l t
      have hst2 : struck l s = upto l t := by omega
      have hus : upto l s = upto l t := by omega
      obtain ⟨x, hx⟩ : ∃ x, l[upto l t - 1]? = some x := ⟨_, List.getElem?_eq_getElem (by omega)⟩
      refine ⟨x, by unfold atTs; rw [if_neg hU]; exact hx, ?_⟩
      unfold struck at hst2
      rw [hus, if_neg hU, hx] at hst2
      simp only at hst2
      split at hst2
      · assumption
      · omega
  · rw [if_neg hz] at e0
    left
    rw [e0]
    unfold atTs
    rw [if_neg (by omega)]

def StaysInv (S : ShS) (key : ByteArray) (t : Int) (cv : Int × Ver) : Prop := S.over ≤ t ∧ (codeOf (atTs (chain S.K key) t) = cv ∨ (cv.1 = 2 ∧ atTs (chain S.K key) t = none))

/-- A record that is not taken. -/
def skipB (r : Rec) (t : Int) : Bool := (((!(r.kind == 1) && !(r.kind == 4)) && !(r.ts == 0)) && decide (r.ts ≤ t)) || ((r.kind == 4) && decide (t < r.ts))

theorem stays_keep {S S' : ShS} {key : ByteArray} {t : Int} {cv : Int × Ver} (h : StaysInv S key t cv) (ho : S'.over ≤ t) (ha : atTs (chain S'.K key) t = atTs (chain S.K key) t ∨ ((∃ x, atTs (chain S.K key) t = some x ∧ x.dead = true) ∧ atTs (chain S'.K key) t = none)) : StaysInv S' key t cv := by
  refine ⟨ho, ?_⟩
  rcases ha with e | ⟨⟨x, hx, hd⟩, e⟩
  · rw [e]; exact h.2
  · right
    rcases h.2 with h2 | h2
    · refine ⟨?_, e⟩
      rw [← h2, hx]
      unfold codeOf
      simp only [hd, if_true]
    · rw [hx] at h2
      cases h2.2

theorem stays_step {S : ShS} (hS : StOk S) {key : ByteArray} {t : Int} {cv : Int × Ver} (h : StaysInv S key t cv) {r : Rec} (hsk : skipB r t = false) : StaysInv (applyS S r) key t cv := by
  unfold skipB at hsk
  simp only [Bool.or_eq_false_iff, Bool.and_eq_false_iff, Bool.not_eq_false', beq_iff_eq, decide_eq_false_iff_not, beq_eq_false_iff_ne, ne_eq] at hsk
  obtain ⟨k1, k2⟩ := hsk
  unfold applyS
  split
  · exact h
  · rename_i hb
    have hb' : recB r = true := by simpa using hb
    obtain ⟨_, _, n3, n4, _, _⟩ := rec_nums hb'
    split
    · unfold prepS
      split
      · exact stays_keep h h.1 (.inl rfl)
      · exact h
    · split
      · rename_i hk1 hk2
        unfold doS
        split
        · by_cases hc : (stateOf S r.txn).1 = 1 ∧ 0 < r.ts
          · rw [if_pos hc]
            exact stays_keep h h.1 (.inl (at_putS hS.kk _ key (by
              rcases k1 with ((k | k) | k) | k <;> omega)))
          · rw [if_neg hc]
            exact stays_keep h h.1 (.inl rfl)
        · exact h
      · split
        · rename_i hk4
          unfold sweepS
          split
          · exact h
          · have hts : r.ts ≤ t := by rcases k2 with k | k <;> omega
            refine stays_keep h hts ?_
            show atTs (chain (sweepK S.K r.ts) key) t = _ ∨ _ ∧ atTs (chain (sweepK S.K r.ts) key) t = _
            rw [chain_eq, chain_eq, lst_sweep hS.kk]
            exact at_sweep (hS.kc.chain _) hts
        · split
          · rename_i hk3
            have ht0 := (rec_ver hb' hk3).2.2.1
            unfold verS
            split
            · exact stays_keep h h.1 (.inl (at_putS hS.kk _ key (by
                rcases k1 with ((k | k) | k) | k <;> omega)))
            · exact h
          · exact h

theorem codeOf_code (a : Option Ver) : (codeOf a).1 = 0 ∨ (codeOf a).1 = 1 ∨ (codeOf a).1 = 2 := by
  cases a with
  | none => exact .inl rfl
  | some x => unfold codeOf; simp only; split <;> simp
/-- The first reading. -/
theorem stays_start {S : ShS} {key : ByteArray} {t : Int} (h3 : (readOf S key t).1 ≠ 3) (h4 : (readOf S key t).1 ≠ 4) : StaysInv S key t (readOf S key t) := by
  by_cases ho : t < S.over
  · exfalso
    apply h4
    unfold readOf
    rw [if_pos ho]
  · have ho' : S.over ≤ t := by omega
    refine ⟨ho', ?_⟩
    rw [read_of ho'] at h3 ⊢
    split
    · rename_i hh
      rw [if_pos hh] at h3
      exact absurd rfl h3
    · exact .inl rfl
/-- Each later reading: locked, or gone, or the same. -/
theorem stays_read {S : ShS} {key : ByteArray} {t : Int} {cv : Int × Ver} (h : StaysInv S key t cv) : (readOf S key t).1 = 3 ∨ ((readOf S key t).1 ≠ 3 ∧ cv.1 = 2 ∧ (readOf S key t).1 = 0) ∨ ((readOf S key t).1 ≠ 3 ∧ readOf S key t = cv) := by
  rw [read_of h.1]
  split
  · exact .inl rfl
  · right
    have hc := codeOf_code (atTs (chain S.K key) t)
    rcases h.2 with e | ⟨e1, e2⟩
    · right
      exact ⟨by omega, e⟩
    · left
      rw [e2]
      exact ⟨by decide, e1, rfl⟩
end Go.Proofs.Ytokfbikiicfafaa
