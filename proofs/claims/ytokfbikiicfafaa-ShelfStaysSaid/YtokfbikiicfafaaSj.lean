/- A shelf in memory: the words for its two maps, its list of ended transactions, and their frame. -/
import Derived.Test.YtokfbikiicfafaaSr
namespace Go.Proofs.Ytokfbikiicfafaa
open Go.RowKit Go.Maps
set_option linter.unusedVariables false

theorem inj_encVer (x y : Ver) (h : encVer x = encVer y) : x = y := by cases x; cases y; simp_all [encVer]
theorem inj_encWr (x y : Wr) (h : encWr x = encWr y) : x = y := by cases x; cases y; simp_all [encWr]
theorem inj_encS (x y : ByteArray) (h : encS x = encS y) : x = y := by simp_all [encS]

open Classical in
/-- A chain as a value of the map of keys. -/
noncomputable def RdK (w : World) (ok : Nat → Prop) (v : Value) : Option (DataW (List Ver) × List MemPlace) :=
  if h : ∃ l, RdV 3 encVer w ok v l then some (.held (Classical.choose h), []) else none
theorem RdK_mk {w : World} {ok : Nat → Prop} {v : Value} {l : List Ver} (h : RdV 3 encVer w ok v l) : RdK w ok v = some (.held l, []) := by
  have he : ∃ l, RdV 3 encVer w ok v l := ⟨l, h⟩
  unfold RdK
  rw [dif_pos he, (Classical.choose_spec he).same h len_encVer inj_encVer]
theorem RdK_inv {w : World} {ok : Nat → Prop} {v : Value} {z : DataW (List Ver) × List MemPlace} (h : RdK w ok v = some z) : ∃ l, RdV 3 encVer w ok v l ∧ z = (.held l, []) := by
  unfold RdK at h
  split at h
  · rename_i he
    cases h
    exact ⟨_, Classical.choose_spec he, rfl⟩
  · cases h

/-- A record as a value. -/
def recVal (r : Rec) (v7 v8 : Value) : Value := .agg #[.int .i64 r.kind, .int .i64 r.txn, .int .i64 r.ts, .int .i64 r.coord, .string r.key, .string r.text, .bool r.dead, v7, v8]
def RdRec (w : World) (ok : Nat → Prop) (v : Value) (r : Rec) : Prop := ∃ v7 v8, v = recVal r v7 v8 ∧ RdV 1 encS w ok v7 r.keys ∧ RdV 3 encWr w ok v8 r.writes
theorem RdRec.same {w : World} {ok : Nat → Prop} {v : Value} {r s : Rec} (h : RdRec w ok v r) (h' : RdRec w ok v s) : r = s := by
  obtain ⟨v7, v8, e, a, b⟩ := h
  obtain ⟨u7, u8, e', a', b'⟩ := h'
  rw [e] at e'
  cases r
  cases s
  simp only [recVal, Value.agg.injEq, Array.mk.injEq, List.cons.injEq, Value.int.injEq, Value.string.injEq, Value.bool.injEq, true_and, and_true] at e'
  obtain ⟨rfl, rfl, rfl, rfl, rfl, rfl, rfl, rfl, rfl⟩ := e'
  have hk := a.same a' len_encS inj_encS
  have hw := b.same b' len_encWr inj_encWr
  simp only at hk hw
  subst hk
  subst hw
  rfl
theorem RdRec.move {w w' : World} {ok ok' : Nat → Prop} {v : Value} {r : Rec} (h : RdRec w ok v r) (hm : ∀ b, ok b → b < w.heap.size → w'.heap[b]? = w.heap[b]?) (hs : w.heap.size ≤ w'.heap.size) (hk : ∀ b, ok b → b < w.heap.size → ok' b) : RdRec w' ok' v r := by
  obtain ⟨v7, v8, e, a, b⟩ := h
  exact ⟨v7, v8, e, a.move hm hs hk, b.move hm hs hk⟩
open Classical in
noncomputable def RdP (w : World) (ok : Nat → Prop) (v : Value) : Option (DataW Rec × List MemPlace) :=
  if h : ∃ r, RdRec w ok v r then some (.held (Classical.choose h), []) else none
theorem RdP_mk {w : World} {ok : Nat → Prop} {v : Value} {r : Rec} (h : RdRec w ok v r) : RdP w ok v = some (.held r, []) := by
  have he : ∃ r, RdRec w ok v r := ⟨r, h⟩
  unfold RdP
  rw [dif_pos he, (Classical.choose_spec he).same h]
theorem RdP_inv {w : World} {ok : Nat → Prop} {v : Value} {z : DataW Rec × List MemPlace} (h : RdP w ok v = some z) : ∃ r, RdRec w ok v r ∧ z = (.held r, []) := by
  unfold RdP at h
  split at h
  · rename_i he
    cases h
    exact ⟨_, Classical.choose_spec he, rfl⟩
  · cases h

/-- A map reads as it did where its block is as it was and its elements read as they did. -/
theorem ownsMap_move {H : Type} {P : Program} {k : TypeId} {R R' : Value → Option (DataW H × List MemPlace)} {w w' : World} {b n : Nat} {D : DataW H} (h : w.ownsMap P k R b n D) (hb : w'.heap[b]? = w.heap[b]?) (hR : ∀ v z, R v = some z → R' v = some z) : w'.ownsMap P k R' b n D := by
  obtain ⟨es, clock, he, F, hs, hD⟩ := h
  obtain ⟨F1, hmap, _⟩ := F.stay (R' := R') (fun x _ z hz => hR _ _ hz)
  exact ⟨es, clock, hb.trans he, F1, hs, by rw [hmap]; exact hD⟩
/-- The bound is how many there are. -/
theorem ownsMap_tight {H : Type} {P : Program} {k : TypeId} {R : Value → Option (DataW H × List MemPlace)} {w : World} {b n : Nat} {D : DataW H} (h : w.ownsMap P k R b n D) : w.ownsMap P k R b (Maps.size D) D := by
  obtain ⟨es, clock, he, F, hs, rfl⟩ := h
  refine ⟨es, clock, he, F, ?_, rfl⟩
  rw [Maps.size_eq, length_sorted]
  simp

theorem RdK_move {w w' : World} {ok ok' : Nat → Prop} (hm : ∀ b, ok b → b < w.heap.size → w'.heap[b]? = w.heap[b]?) (hs : w.heap.size ≤ w'.heap.size) (hk : ∀ b, ok b → b < w.heap.size → ok' b) (v : Value) (z : DataW (List Ver) × List MemPlace) (h : RdK w ok v = some z) : RdK w' ok' v = some z := by
  obtain ⟨l, hl, rfl⟩ := RdK_inv h
  exact RdK_mk (hl.move hm hs hk)
theorem RdP_move {w w' : World} {ok ok' : Nat → Prop} (hm : ∀ b, ok b → b < w.heap.size → w'.heap[b]? = w.heap[b]?) (hs : w.heap.size ≤ w'.heap.size) (hk : ∀ b, ok b → b < w.heap.size → ok' b) (v : Value) (z : DataW Rec × List MemPlace) (h : RdP w ok v = some z) : RdP w' ok' v = some z := by
  obtain ⟨l, hl, rfl⟩ := RdP_inv h
  exact RdP_mk (hl.move hm hs hk)

/-- What a shelf knows. -/
structure ShS where
  K : DataW (List Ver)
  P : DataW Rec
  E : List Fin2
  over : Int

/-- A shelf in memory, its blocks named. -/
structure ShAt (w : World) (base : Nat) (ok : Nat → Prop) (p bk bq : Nat) (ev : Value) (S : ShS) : Prop where
  blk : w.heap[p]? = some (.cells #[.map (some bk), .map (some bq), ev, .int .i64 S.over] 78 (0, 0))
  keys : w.ownsMap Try.prog 9 (RdK w ok) bk (Maps.size S.K) S.K
  preps : w.ownsMap Try.prog 3 (RdP w ok) bq (Maps.size S.P) S.P
  ends : w.ownsRow base 96 2 ev S.E.length (S.E.flatMap encFin)
  p_ge : base ≤ p
  bk_ge : base ≤ bk
  bq_ge : base ≤ bq
  p_no : ¬ ok p
  bk_no : ¬ ok bk
  bq_no : ¬ ok bq
  ev_no : ∀ k, ev.ownBlock = some k → ¬ ok k
  ne : bk ≠ bq
  ok_lt : ∀ b, ok b → b < w.heap.size

/-- The blocks of a shelf that may be written. -/
def Mut (p bk bq : Nat) (ev : Value) (k : Nat) : Prop := k = p ∨ k = bk ∨ k = bq ∨ ev.ownBlock = some k

theorem ShAt.mut_no {w : World} {base : Nat} {ok : Nat → Prop} {p bk bq : Nat} {ev : Value} {S : ShS} (h : ShAt w base ok p bk bq ev S) {k : Nat} (hk : Mut p bk bq ev k) : ¬ ok k := by
  rcases hk with rfl | rfl | rfl | hk
  · exact h.p_no
  · exact h.bk_no
  · exact h.bq_no
  · exact h.ev_no k hk
theorem ShAt.mut_ge {w : World} {base : Nat} {ok : Nat → Prop} {p bk bq : Nat} {ev : Value} {S : ShS} (h : ShAt w base ok p bk bq ev S) {k : Nat} (hk : Mut p bk bq ev k) : base ≤ k ∧ k < w.heap.size := by
  rcases hk with rfl | rfl | rfl | hk
  · exact ⟨h.p_ge, (Array.getElem?_eq_some_iff.1 h.blk).1⟩
  · exact ⟨h.bk_ge, h.keys.lt⟩
  · exact ⟨h.bq_ge, h.preps.lt⟩
  · exact own_block_lt h.ends hk
theorem ShAt.p_bk {w : World} {base : Nat} {ok : Nat → Prop} {p bk bq : Nat} {ev : Value} {S : ShS} (h : ShAt w base ok p bk bq ev S) : p ≠ bk := by
  obtain ⟨es, clock, hb, _⟩ := h.keys
  rintro rfl
  rw [h.blk] at hb
  cases hb
theorem ShAt.p_bq {w : World} {base : Nat} {ok : Nat → Prop} {p bk bq : Nat} {ev : Value} {S : ShS} (h : ShAt w base ok p bk bq ev S) : p ≠ bq := by
  obtain ⟨es, clock, hb, _⟩ := h.preps
  rintro rfl
  rw [h.blk] at hb
  cases hb
theorem own_cells {w : World} {base e size n : Nat} {v : Value} {xs : List Value} (h : w.ownsRow base e size v n xs) {k : Nat} (hk : v.ownBlock = some k) : ∃ cur, w.heap[k]? = some (.cells cur e (0, 0)) := by
  rcases h.2 with ⟨rfl, _⟩ | ⟨g, cap, cur, rfl, hg, hh, r⟩
  · simp [Value.ownBlock] at hk
  · have : g = k := by simpa [Value.ownBlock] using hk
    subst this
    exact ⟨cur, hh⟩
theorem ShAt.ev_p {w : World} {base : Nat} {ok : Nat → Prop} {p bk bq : Nat} {ev : Value} {S : ShS} (h : ShAt w base ok p bk bq ev S) : ev.ownBlock ≠ some p := by
  intro e
  obtain ⟨cur, hc⟩ := own_cells h.ends e
  rw [h.blk] at hc
  injection hc with hc
  injection hc with _ ht
  exact absurd ht (by decide)
theorem ShAt.ev_bk {w : World} {base : Nat} {ok : Nat → Prop} {p bk bq : Nat} {ev : Value} {S : ShS} (h : ShAt w base ok p bk bq ev S) : ev.ownBlock ≠ some bk := by
  intro e
  obtain ⟨cur, hc⟩ := own_cells h.ends e
  obtain ⟨es, clock, hb, _⟩ := h.keys
  rw [hb] at hc
  cases hc
theorem ShAt.ev_bq {w : World} {base : Nat} {ok : Nat → Prop} {p bk bq : Nat} {ev : Value} {S : ShS} (h : ShAt w base ok p bk bq ev S) : ev.ownBlock ≠ some bq := by
  intro e
  obtain ⟨cur, hc⟩ := own_cells h.ends e
  obtain ⟨es, clock, hb, _⟩ := h.preps
  rw [hb] at hc
  cases hc

theorem own_move {w w' : World} {base e size n : Nat} {v : Value} {xs : List Value} (h : w.ownsRow base e size v n xs) (hm : ∀ k, v.ownBlock = some k → w'.heap[k]? = w.heap[k]?) : w'.ownsRow base e size v n xs := by
  obtain ⟨h1, h2⟩ := h
  refine ⟨h1, ?_⟩
  rcases h2 with h2 | ⟨g, cap, cur, rfl, hg, hh, r⟩
  · exact .inl h2
  · exact .inr ⟨g, cap, cur, rfl, hg, (hm g (by simp [Value.ownBlock])).trans hh, r⟩

/-- The shelf stays where neither its blocks nor what it reads has turned. -/
theorem ShAt.move {w w' : World} {base : Nat} {ok ok' : Nat → Prop} {p bk bq : Nat} {ev : Value} {S : ShS} (h : ShAt w base ok p bk bq ev S) (hs : w.heap.size ≤ w'.heap.size)
    (hm : ∀ b, (ok b ∨ Mut p bk bq ev b) → b < w.heap.size → w'.heap[b]? = w.heap[b]?) (hk : ∀ b, ok b → b < w.heap.size → ok' b) (hn : ∀ b, Mut p bk bq ev b → ¬ ok' b) (hl : ∀ b, ok' b → b < w'.heap.size) : ShAt w' base ok' p bk bq ev S where
  blk := (hm p (.inr (.inl rfl)) (h.mut_ge (.inl rfl)).2).trans h.blk
  keys := ownsMap_move h.keys (hm bk (.inr (.inr (.inl rfl))) h.keys.lt) (RdK_move (fun b hb hl => hm b (.inl hb) hl) hs hk)
  preps := ownsMap_move h.preps (hm bq (.inr (.inr (.inr (.inl rfl)))) h.preps.lt) (RdP_move (fun b hb hl => hm b (.inl hb) hl) hs hk)
  ends := own_move h.ends (fun k hk => hm k (.inr (.inr (.inr (.inr hk)))) (own_block_lt h.ends hk).2)
  p_ge := h.p_ge
  bk_ge := h.bk_ge
  bq_ge := h.bq_ge
  p_no := hn _ (.inl rfl)
  bk_no := hn _ (.inr (.inl rfl))
  bq_no := hn _ (.inr (.inr (.inl rfl)))
  ev_no := fun k hk => hn k (.inr (.inr (.inr hk)))
  ne := h.ne
  ok_lt := hl
theorem ShAt.below {w w' : World} {base : Nat} {ok : Nat → Prop} {p bk bq : Nat} {ev : Value} {S : ShS} (h : ShAt w base ok p bk bq ev S) (hb : Below w.heap.size w w') : ShAt w' base ok p bk bq ev S :=
  h.move hb.size (fun b _ hl => hb.block b hl) (fun _ h _ => h) (fun b hm => h.mut_no hm) (fun b hb' => Nat.lt_of_lt_of_le (h.ok_lt b hb') hb.size)

/-- A key's chain. -/
def chain (K : DataW (List Ver)) (key : ByteArray) : List Ver := match K.atKey (.string key.data.toList) (.held []) with | .held l => l | _ => []
def recAt (P : DataW Rec) (txn : Int) : Option Rec := if Maps.has P (.int .i64 txn) then (match P.atKey (.int .i64 txn) .nil with | .held r => some r | _ => none) else none

theorem lawS : Keyed Try.prog 9 := string_keyed Try.underlying9
theorem lawI : Keyed Try.prog 3 := int_keyed Try.underlying3
end Go.Proofs.Ytokfbikiicfafaa
