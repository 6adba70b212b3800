/- Words for slices and maps in memory that are read: rows of elements of a fixed number of cells; a frame for calls that write known blocks. -/
import Derived.Test.YtokfbikiicfafaaProg
import Derived.Maps.OwnSet
import Derived.Maps.RangeWalk
import Derived.Maps.StringElems
import Derived.WalkKit
import Derived.KernelRfl
import Derived.Deep.LoopGhost
import Derived.Deep.QuietTactic
import Derived.BigQuiet
import Derived.Lib.Hide
import Derived.Shelf.SlicesQ.Load
import Derived.Deep.RegionHeld3
import Derived.Deep.DeepCutAuto
import Derived.Deep.CutBlock
import Derived.StillTailTactics
namespace Go.Proofs.Ytokfbikiicfafaa
open Go.RowKit Go.Maps

/-- A slice's cells: each element's k cells lie one behind the other, in a block of which 'ok' holds. -/
def RdSl {α : Type} (k : Nat) (enc : α → List Value) (w : World) (ok : Nat → Prop) (A : Option Addr) (xs : List α) : Prop :=
  xs ≠ [] → ∃ b off, A = some ⟨b, off, none⟩ ∧ ok b ∧ b < w.heap.size ∧ ∀ j x, xs[j]? = some x → ∀ i u, (enc x)[i]? = some u → w.cell? ⟨b, off + j * k + i, none⟩ = some u

theorem RdSl.nil {α : Type} (k : Nat) (enc : α → List Value) (w : World) (ok : Nat → Prop) (A : Option Addr) : RdSl k enc w ok A ([] : List α) := fun h => absurd rfl h

/-- What the row's block held is still there. -/
theorem RdSl.move {α : Type} {k : Nat} {enc : α → List Value} {w w' : World} {ok ok' : Nat → Prop} {A : Option Addr} {xs : List α} (h : RdSl k enc w ok A xs)
    (hm : ∀ b, ok b → b < w.heap.size → w'.heap[b]? = w.heap[b]?) (hs : w.heap.size ≤ w'.heap.size) (hk : ∀ b, ok b → b < w.heap.size → ok' b) : RdSl k enc w' ok' A xs := fun hne => by
  obtain ⟨b, off, e, ho, hl, hc⟩ := h hne
  refine ⟨b, off, e, hk b ho hl, Nat.lt_of_lt_of_le hl hs, fun j x hj i u hu => ?_⟩
  have := hc j x hj i u hu
  simpa [World.cell?, hm b ho hl] using this

theorem RdSl.below {α : Type} {k : Nat} {enc : α → List Value} {w w' : World} {ok : Nat → Prop} {A : Option Addr} {xs : List α} (h : RdSl k enc w ok A xs) (hb : Below w.heap.size w w') : RdSl k enc w' ok A xs :=
  h.move (fun b _ hl => hb.block b hl) hb.size (fun _ ho _ => ho)

/-- Only the blocks of which S holds may have turned. -/
def Kept (w w' : World) (S : Nat → Prop) : Prop := w.heap.size ≤ w'.heap.size ∧ ∀ i, i < w.heap.size → ¬ S i → w'.heap[i]? = w.heap[i]?

theorem Kept.refl (w : World) (S : Nat → Prop) : Kept w w S := ⟨Nat.le_refl _, fun _ _ _ => rfl⟩
theorem Kept.of_below {w w' : World} (h : Below w.heap.size w w') (S : Nat → Prop) : Kept w w' S := ⟨h.size, fun i hi _ => h.block i hi⟩
theorem Kept.trans {a b c : World} {S T : Nat → Prop} (h : Kept a b S) (k : Kept b c T) (hT : ∀ i, i < a.heap.size → T i → S i) : Kept a c S :=
  ⟨Nat.le_trans h.1 k.1, fun i hi hn => (k.2 i (Nat.lt_of_lt_of_le hi h.1) (fun t => hn (hT i hi t))).trans (h.2 i hi hn)⟩
theorem Kept.mono {w w' : World} {S T : Nat → Prop} (h : Kept w w' S) (hT : ∀ i, i < w.heap.size → S i → T i) : Kept w w' T := ⟨h.1, fun i hi hn => h.2 i hi (fun s => hn (hT i hi s))⟩
theorem Kept.obj {w w' : World} {S : Nat → Prop} (h : Kept w w' S) {i : Nat} {o : Obj} (ho : w.heap[i]? = some o) (hn : ¬ S i) : w'.heap[i]? = some o :=
  (h.2 i (Array.getElem?_eq_some_iff.1 ho).1 hn).trans ho

theorem flatMap_len {α : Type} {k : Nat} {enc : α → List Value} (hk : ∀ x, (enc x).length = k) : ∀ xs : List α, (xs.flatMap enc).length = xs.length * k
  | [] => by simp
  | x :: xs => by rw [List.flatMap_cons, List.length_append, hk, flatMap_len hk xs, List.length_cons, Nat.succ_mul, Nat.add_comm]

theorem flatMap_at {α : Type} {k : Nat} {enc : α → List Value} (hk : ∀ x, (enc x).length = k) : ∀ (xs : List α) (j : Nat) (x : α) (i : Nat), xs[j]? = some x → i < k → (xs.flatMap enc)[j * k + i]? = (enc x)[i]?
  | [], j, x, i, h, _ => by simp at h
  | y :: xs, 0, x, i, h, hi => by
    simp at h
    subst h
    rw [List.flatMap_cons, Nat.zero_mul, Nat.zero_add, List.getElem?_append_left (by rw [hk]; exact hi)]
  | y :: xs, j + 1, x, i, h, hi => by
    rw [List.flatMap_cons, List.getElem?_append_right (by rw [hk, Nat.succ_mul]; omega), hk]
    have e : (j + 1) * k + i - k = j * k + i := by rw [Nat.succ_mul]; omega
    rw [e]
    exact flatMap_at hk xs j x i (by simpa using h) hi

/-- Every cell of the row, by its number. -/
theorem RdSl.flat {α : Type} {k : Nat} {enc : α → List Value} {w : World} {ok : Nat → Prop} {A : Option Addr} {xs : List α} (h : RdSl k enc w ok A xs) (hk : ∀ x, (enc x).length = k) (hk0 : 0 < k) {ad : Addr} (hA : A = some ad) :
    ∀ (j : Nat) (u : Value), (xs.flatMap enc)[j]? = some u → w.cell? (ad.add j) = some u := by
  intro j u hj
  have hl := (List.getElem?_eq_some_iff.1 hj).1
  rw [flatMap_len hk] at hl
  have hne : xs ≠ [] := by intro e; subst e; simp at hl
  obtain ⟨b, off, e, _, _, hc⟩ := h hne
  rw [hA] at e
  cases e
  have hq : j / k < xs.length := (Nat.div_lt_iff_lt_mul hk0).2 hl
  obtain ⟨x, hx⟩ : ∃ x, xs[j / k]? = some x := ⟨_, List.getElem?_eq_getElem hq⟩
  have hdm : j / k * k + j % k = j := Nat.div_add_mod' j k
  have := flatMap_at hk xs (j / k) x (j % k) hx (Nat.mod_lt _ hk0)
  rw [hdm, hj] at this
  have hc' := hc _ x hx _ u this.symm
  rw [Nat.add_assoc, hdm] at hc'
  have ea : (⟨b, off, none⟩ : Addr).add j = ⟨b, off + j, none⟩ := by unfold Addr.add; split <;> simp_all
  rw [ea]
  exact hc'

/-- A row that is owned is read. -/
theorem own_rd {α : Type} {k : Nat} {enc : α → List Value} {w : World} {base e : Nat} {v : Value} {xs : List α} (h : w.ownsRow base e k v xs.length (xs.flatMap enc)) (hk : ∀ x, (enc x).length = k) :
    ∃ A c, v = .slice A xs.length c ∧ xs.length ≤ c ∧ RdSl k enc w (fun b => v.ownBlock = some b) A xs := by
  obtain ⟨_, h2⟩ := h
  rcases h2 with ⟨rfl, hn⟩ | ⟨g, cap, cur, rfl, hg, hh, hc, hm, hs, ht⟩
  · have : xs = [] := by simpa using hn
    subst this
    exact ⟨none, 0, rfl, Nat.le_refl _, RdSl.nil _ _ _ _ _⟩
  · refine ⟨_, _, rfl, hc, fun _ => ⟨g, 0, rfl, rfl, (Array.getElem?_eq_some_iff.1 hh).1, fun j x hj i u hu => ?_⟩⟩
    have hi : i < k := by have := (List.getElem?_eq_some_iff.1 hu).1; rwa [hk] at this
    have hj' := (List.getElem?_eq_some_iff.1 hj).1
    have f := flatMap_at hk xs j x i hj hi
    rw [hu, ← ht] at f
    have hlt : j * k + i < xs.length * k := by
      have : (j + 1) * k ≤ xs.length * k := Nat.mul_le_mul_right _ hj'
      rw [Nat.succ_mul] at this
      omega
    rw [List.getElem?_take_of_lt hlt] at f
    simp only [World.cell?, hh, Nat.zero_add]
    simpa using f

/-- A slice's value that is read. -/
def RdV {α : Type} (k : Nat) (enc : α → List Value) (w : World) (ok : Nat → Prop) (v : Value) (xs : List α) : Prop :=
  ∃ A c, v = .slice A xs.length c ∧ xs.length ≤ c ∧ (A = none → c = 0) ∧ RdSl k enc w ok A xs
theorem RdV.nil {α : Type} (k : Nat) (enc : α → List Value) (w : World) (ok : Nat → Prop) : RdV k enc w ok (.slice none 0 0) ([] : List α) := ⟨none, 0, rfl, Nat.le_refl _, fun _ => rfl, RdSl.nil _ _ _ _ _⟩
theorem RdV.move {α : Type} {k : Nat} {enc : α → List Value} {w w' : World} {ok ok' : Nat → Prop} {v : Value} {xs : List α} (h : RdV k enc w ok v xs)
    (hm : ∀ b, ok b → b < w.heap.size → w'.heap[b]? = w.heap[b]?) (hs : w.heap.size ≤ w'.heap.size) (hk : ∀ b, ok b → b < w.heap.size → ok' b) : RdV k enc w' ok' v xs := by
  obtain ⟨A, c, e, h1, h2, h3⟩ := h
  exact ⟨A, c, e, h1, h2, h3.move hm hs hk⟩
theorem own_rdv {α : Type} {k : Nat} {enc : α → List Value} {w : World} {base e : Nat} {v : Value} {xs : List α} (h : w.ownsRow base e k v xs.length (xs.flatMap enc)) (hk : ∀ x, (enc x).length = k) :
    RdV k enc w (fun b => v.ownBlock = some b) v xs := by
  obtain ⟨A, c, e1, h1, h2⟩ := own_rd h hk
  refine ⟨A, c, e1, h1, fun hA => ?_, h2⟩
  subst hA
  obtain ⟨_, h3⟩ := h
  rcases h3 with ⟨e2, _⟩ | ⟨g, cap, cur, e2, _⟩
  · rw [e1] at e2; injection e2 with _ _ ec
  · rw [e1] at e2; injection e2 with ea; cases ea
/-- What is read is read in one way. -/
theorem RdV.same {α : Type} {k : Nat} {enc : α → List Value} {w : World} {ok : Nat → Prop} {v : Value} {xs ys : List α} (h : RdV k enc w ok v xs) (h' : RdV k enc w ok v ys) (hk : ∀ x, (enc x).length = k) (hinj : ∀ x y, enc x = enc y → x = y) : xs = ys := by
  obtain ⟨A, c, e, _, _, h1⟩ := h
  obtain ⟨A', c', e', _, _, h2⟩ := h'
  rw [e] at e'
  injection e' with eA el ec
  subst eA
  refine List.ext_getElem? fun j => ?_
  by_cases hj : j < xs.length
  · have hj' : j < ys.length := by omega
    obtain ⟨x, hx⟩ : ∃ x, xs[j]? = some x := ⟨_, List.getElem?_eq_getElem hj⟩
    obtain ⟨y, hy⟩ : ∃ y, ys[j]? = some y := ⟨_, List.getElem?_eq_getElem hj'⟩
    obtain ⟨b, off, e1, _, _, c1⟩ := h1 (by intro e; subst e; simp at hj)
    obtain ⟨b', off', e2, _, _, c2⟩ := h2 (by intro e; subst e; simp at hj')
    rw [e1] at e2
    injection e2 with e2
    injection e2 with eb eo
    subst eb
    subst eo
    rw [hx, hy]
    congr 1
    refine hinj _ _ (List.ext_getElem? fun i => ?_)
    by_cases hi : i < k
    · obtain ⟨u, hu⟩ : ∃ u, (enc x)[i]? = some u := ⟨_, List.getElem?_eq_getElem (by rw [hk]; exact hi)⟩
      obtain ⟨u', hu'⟩ : ∃ u, (enc y)[i]? = some u := ⟨_, List.getElem?_eq_getElem (by rw [hk]; exact hi)⟩
      have a1 := c1 j x hx i u hu
      have a2 := c2 j y hy i u' hu'
      rw [a1] at a2
      rw [hu, hu', a2]
    · rw [List.getElem?_eq_none (by rw [hk]; omega), List.getElem?_eq_none (by rw [hk]; omega)]
  · rw [List.getElem?_eq_none (by omega), List.getElem?_eq_none (by omega)]

theorem own_block_lt {w : World} {base e size n : Nat} {v : Value} {xs : List Value} (h : w.ownsRow base e size v n xs) {b : Nat} (hb : v.ownBlock = some b) : base ≤ b ∧ b < w.heap.size := h.lt b hb

theorem alloc_blk {w : World} {o : Obj} {n : Nat} (h : n = w.heap.size) : (w.alloc o).heap[n]? = some o := by subst h; exact (MapKept.heap_alloc w o).1
theorem alloc_old {w : World} {o x : Obj} {n : Nat} (h : w.heap[n]? = some x) : (w.alloc o).heap[n]? = some x := ((MapKept.heap_alloc w o).2 n (Array.getElem?_eq_some_iff.1 h).1).trans h
theorem cell_blk {w : World} {b i : Nat} {cs : Array Value} {t : TypeId} {fr : Nat × Nat} {u : Value} (h : w.heap[b]? = some (.cells cs t fr)) (hu : cs[i]? = some u) : w.cell? ⟨b, i, none⟩ = some u := by simp [World.cell?, h, hu]
theorem frozen_blk {w : World} {b i : Nat} {cs : Array Value} {t : TypeId} (h : w.heap[b]? = some (.cells cs t (0, 0))) : w.frozen? ⟨b, i, none⟩ = false := by simp [World.frozen?, h]
theorem cellsLater {w wx : World} {g : Nat} {o : Obj} (hb : Below w.heap.size w wx) (h : w.heap[g]? = some o) : wx.heap[g]? = some o := (hb.block g (Array.getElem?_eq_some_iff.1 h).1).trans h
theorem set_blk {w : World} {g i : Nat} {cs : Array Value} {t : TypeId} {fr : Nat × Nat} {u : Value} (h : w.heap[g]? = some (.cells cs t fr)) : (w.setCell ⟨g, i, none⟩ u).heap[g]? = some (.cells (cs.setIfInBounds i u) t fr) := by
  simp [World.setCell, Array.getElem?_modify, h]
theorem set_far {w : World} {g : Nat} {o : Obj} {a : Addr} {u : Value} (h : w.heap[g]? = some o) (hne : g ≠ a.block) : (w.setCell a u).heap[g]? = some o := (Below.heap_setCell w a u g hne).trans h
theorem below_drewN {B : Nat} {a w : World} (h : Below B a w) (n : Nat) : Below B a (w.drewN n) := ⟨h.os, h.tape, h.output, h.size, h.block⟩
theorem below_thru {w W w1 : World} (h : Below w.heap.size w W) (hb : Below W.heap.size W w1) : Below w.heap.size w w1 := h.trans (hb.mono h.size)
/-- A row of one element in a block of its own. -/
theorem rd_one {α : Type} {k : Nat} {enc : α → List Value} {w : World} {b : Nat} {t : TypeId} {fr : Nat × Nat} {x : α} (ok : Nat → Prop) (ho : ok b) (h : w.heap[b]? = some (.cells (enc x).toArray t fr)) : RdSl k enc w ok (some ⟨b, 0, none⟩) [x] := fun _ =>
  ⟨b, 0, rfl, ho, (Array.getElem?_eq_some_iff.1 h).1, fun j y hj i u hu => by
    have hj0 : j = 0 := by have := (List.getElem?_eq_some_iff.1 hj).1; simpa using this
    subst hj0
    simp at hj
    subst hj
    simp only [World.cell?, h]
    simpa using hu⟩
end Go.Proofs.Ytokfbikiicfafaa
