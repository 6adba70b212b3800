/- Frames, and what a shelf becomes when one of its maps is written. -/
import Derived.Test.YtokfbikiicfafaaSo
namespace Go.Proofs.Ytokfbikiicfafaa
open Go.RowKit Go.Maps
set_option linter.unusedVariables false

/-- w' is w but for the blocks of S, and for new ones. -/
structure Frm (w w' : World) (S : Nat → Prop) : Prop where
  os : w'.os = w.os
  tape : w'.tape = w.tape
  output : w'.output = w.output
  size : w.heap.size ≤ w'.heap.size
  block : ∀ i, i < w.heap.size → ¬ S i → w'.heap[i]? = w.heap[i]?
theorem Frm.refl (w : World) (S : Nat → Prop) : Frm w w S := ⟨rfl, rfl, rfl, Nat.le_refl _, fun _ _ _ => rfl⟩
theorem Frm.of_below {w w' : World} (h : Below w.heap.size w w') (S : Nat → Prop) : Frm w w' S := ⟨h.os, h.tape, h.output, h.size, fun i hi _ => h.block i hi⟩
theorem Frm.trans {a b c : World} {S T : Nat → Prop} (h : Frm a b S) (k : Frm b c T) (hT : ∀ i, i < a.heap.size → T i → S i) : Frm a c S :=
  ⟨k.os.trans h.os, k.tape.trans h.tape, k.output.trans h.output, Nat.le_trans h.size k.size, fun i hi hn => (k.block i (Nat.lt_of_lt_of_le hi h.size) (fun t => hn (hT i hi t))).trans (h.block i hi hn)⟩
theorem Frm.mono {w w' : World} {S T : Nat → Prop} (h : Frm w w' S) (hT : ∀ i, i < w.heap.size → S i → T i) : Frm w w' T := ⟨h.os, h.tape, h.output, h.size, fun i hi hn => h.block i hi (fun s => hn (hT i hi s))⟩
theorem Frm.below {w w' : World} {S : Nat → Prop} {B : Nat} (h : Frm w w' S) (hB : B ≤ w.heap.size) (hS : ∀ i, S i → B ≤ i) : Below B w w' :=
  ⟨h.os, h.tape, h.output, h.size, fun i hi => h.block i (Nat.lt_of_lt_of_le hi hB) (fun s => by have := hS i s; omega)⟩
theorem Frm.obj {w w' : World} {S : Nat → Prop} (h : Frm w w' S) {i : Nat} {o : Obj} (ho : w.heap[i]? = some o) (hn : ¬ S i) : w'.heap[i]? = some o :=
  (h.block i (Array.getElem?_eq_some_iff.1 ho).1 hn).trans ho
theorem Frm.of_turned {w w' : World} {b : Nat} (h : w.mapTurned w' b) : Frm w w' (fun i => i = b) := by
  have g := h.grown
  exact ⟨g.os, g.tape, g.output, g.size, fun i hi hn => g.block i hi (fun e => hn (by cases e; rfl))⟩
theorem Frm.setCell (w : World) (a : Addr) (u : Value) : Frm w (w.setCell a u) (fun i => i = a.block) :=
  ⟨rfl, rfl, rfl, by simp, fun i _ hn => Below.heap_setCell w a u i hn⟩

/-- What a mutator may do to a shelf. -/
def Turned (w w' : World) (base : Nat) (ok : Nat → Prop) (p bk bq : Nat) (ev : Value) (S' : ShS) : Prop :=
  ∃ (ok' : Nat → Prop) (ev' : Value), ShAt w' base ok' p bk bq ev' S' ∧ Frm w w' (Mut p bk bq ev) ∧ (∀ b, ok' b → ok b ∨ w.heap.size ≤ b) ∧ (∀ b, ok b → ok' b) ∧ (∀ k, ev'.ownBlock = some k → ev.ownBlock = some k ∨ w.heap.size ≤ k)

theorem Turned.refl {w w' : World} {base : Nat} {ok : Nat → Prop} {p bk bq : Nat} {ev : Value} {S : ShS} (h : ShAt w base ok p bk bq ev S) (hb : Below w.heap.size w w') : Turned w w' base ok p bk bq ev S :=
  ⟨ok, ev, h.below hb, Frm.of_below hb _, fun _ h => .inl h, fun _ h => h, fun _ h => .inl h⟩
theorem Turned.trans {a b : World} {base : Nat} {ok : Nat → Prop} {p bk bq : Nat} {ev : Value} {S1 S2 : ShS} (h : Turned a b base ok p bk bq ev S1)
    {c : World} (k : ∀ ok' ev', ShAt b base ok' p bk bq ev' S1 → Turned b c base ok' p bk bq ev' S2) : Turned a c base ok p bk bq ev S2 := by
  obtain ⟨o1, e1, s1, f1, g1, i1, j1⟩ := h
  obtain ⟨o2, e2, s2, f2, g2, i2, j2⟩ := k o1 e1 s1
  refine ⟨o2, e2, s2, f1.trans f2 ?_, ?_, fun b hb => i2 b (i1 b hb), ?_⟩
  · rintro i hi (rfl | rfl | rfl | hk)
    · exact .inl rfl
    · exact .inr (.inl rfl)
    · exact .inr (.inr (.inl rfl))
    · rcases j1 i hk with h | h
      · exact .inr (.inr (.inr h))
      · omega
  · intro x hx
    rcases g2 x hx with h | h
    · exact g1 x h
    · exact .inr (Nat.le_trans f1.size h)
  · intro x hx
    rcases j2 x hx with h | h
    · exact j1 x h
    · exact .inr (Nat.le_trans f1.size h)

/-- The set of blocks that are read may grow by new ones. -/
theorem ShAt.grow {w w' : World} {base : Nat} {ok : Nat → Prop} {p bk bq : Nat} {ev : Value} {S : ShS} (h : ShAt w base ok p bk bq ev S) (hb : Below w.heap.size w w') : ShAt w' base (fun b => ok b ∨ (w.heap.size ≤ b ∧ b < w'.heap.size)) p bk bq ev S :=
  h.move hb.size (fun b _ hl => hb.block b hl) (fun _ h _ => .inl h) (fun b hm hk => by
    rcases hk with hk | hk
    · exact h.mut_no hm hk
    · have := (h.mut_ge hm).2
      omega) (fun b hk => hk.elim (fun h1 => Nat.lt_of_lt_of_le (h.ok_lt b h1) hb.size) (fun h1 => h1.2))

/-- 's.preps[txn] = r'. -/
theorem ShAt.put_prep {w : World} {base : Nat} {ok : Nat → Prop} {p bk bq : Nat} {ev : Value} {S : ShS} (h : ShAt w base ok p bk bq ev S) {txn : Int} (hw : (Lit.int .i64 txn).wf = true) (hn : Maps.size S.P < maxLen) {v : Value} {r : Rec} (hv : RdRec w ok v r) :
    ∃ w2, (Instr.mapUpdate 75 (.map (some bq)) (.int .i64 txn) v).run Try.prog w = .ok () w2 ∧ ShAt w2 base ok p bk bq ev { S with P := S.P.put (.int .i64 txn) (.held r) } ∧ Frm w w2 (fun i => i = bq) := by
  obtain ⟨w2, hrun, r1, r2⟩ := h.preps.store lawI Try.underlying75 hn (Maps.keyOf_int_mk Try.underlying3 hw) (RdP_mk hv)
  have g := Frm.of_turned r2
  refine ⟨w2, hrun, ?_, g⟩
  have hok : ∀ b, ok b → b < w.heap.size → w2.heap[b]? = w.heap[b]? := fun b hb hl => g.block b hl (fun e => h.bq_no (e ▸ hb))
  have hoth : ∀ b, b < w.heap.size → b ≠ bq → w2.heap[b]? = w.heap[b]? := fun b hl hne => g.block b hl hne
  exact {
    blk := (hoth p (h.mut_ge (.inl rfl)).2 h.p_bq).trans h.blk
    keys := ownsMap_move h.keys (hoth bk h.keys.lt h.ne) (RdK_move hok g.size (fun _ h _ => h))
    preps := ownsMap_tight (ownsMap_move r1 rfl (RdP_move hok g.size (fun _ h _ => h)))
    ends := own_move h.ends (fun k hk => hoth k (own_block_lt h.ends hk).2 (fun e => h.ev_bq (e ▸ hk)))
    p_ge := h.p_ge
    bk_ge := h.bk_ge
    bq_ge := h.bq_ge
    p_no := h.p_no
    bk_no := h.bk_no
    bq_no := h.bq_no
    ev_no := h.ev_no
    ne := h.ne
    ok_lt := fun b hb => Nat.lt_of_lt_of_le (h.ok_lt b hb) g.size }

/-- 's.keys[key] = l'. -/
theorem ShAt.put_key {w : World} {base : Nat} {ok : Nat → Prop} {p bk bq : Nat} {ev : Value} {S : ShS} (h : ShAt w base ok p bk bq ev S) {key : ByteArray} (hw : key.size ≤ maxLen) (hn : Maps.size S.K < maxLen) {v : Value} {l : List Ver} (hv : RdV 3 encVer w ok v l) :
    ∃ w2, (Instr.mapUpdate 74 (.map (some bk)) (.string key) v).run Try.prog w = .ok () w2 ∧ ShAt w2 base ok p bk bq ev { S with K := S.K.put (.string key.data.toList) (.held l) } ∧ Frm w w2 (fun i => i = bk) := by
  obtain ⟨w2, hrun, r1, r2⟩ := h.keys.store lawS Try.underlying74 hn (keyOf_string_mk Try.underlying9 hw) (RdK_mk hv)
  have g := Frm.of_turned r2
  refine ⟨w2, hrun, ?_, g⟩
  have hok : ∀ b, ok b → b < w.heap.size → w2.heap[b]? = w.heap[b]? := fun b hb hl => g.block b hl (fun e => h.bk_no (e ▸ hb))
  have hoth : ∀ b, b < w.heap.size → b ≠ bk → w2.heap[b]? = w.heap[b]? := fun b hl hne => g.block b hl hne
  exact {
    blk := (hoth p (h.mut_ge (.inl rfl)).2 h.p_bk).trans h.blk
    keys := ownsMap_tight (ownsMap_move r1 rfl (RdK_move hok g.size (fun _ h _ => h)))
    preps := ownsMap_move h.preps (hoth bq h.preps.lt (fun e => h.ne e.symm)) (RdP_move hok g.size (fun _ h _ => h))
    ends := own_move h.ends (fun k hk => hoth k (own_block_lt h.ends hk).2 (fun e => h.ev_bk (e ▸ hk)))
    p_ge := h.p_ge
    bk_ge := h.bk_ge
    bq_ge := h.bq_ge
    p_no := h.p_no
    bk_no := h.bk_no
    bq_no := h.bq_no
    ev_no := h.ev_no
    ne := h.ne
    ok_lt := fun b hb => Nat.lt_of_lt_of_le (h.ok_lt b hb) g.size }

/-- 'delete(s.preps, txn)'. -/
theorem ShAt.del_prep {w : World} {base : Nat} {ok : Nat → Prop} {p bk bq : Nat} {ev : Value} {S : ShS} (h : ShAt w base ok p bk bq ev S) {txn : Int} (hw : (Lit.int .i64 txn).wf = true) (ty : TypeId) :
    ∃ w2, (Builtin.delete_ #[75, 3] ty #[.map (some bq), .int .i64 txn]).run Try.prog w = .ok (.tuple #[]) w2 ∧ ShAt w2 base ok p bk bq ev { S with P := S.P.del (.int .i64 txn) } ∧ Frm w w2 (fun i => i = bq) := by
  obtain ⟨w2, hrun, r1, r2⟩ := h.preps.drop lawI Try.underlying75 (Maps.keyOf_int_mk Try.underlying3 hw) ty
  have g := Frm.of_turned r2
  refine ⟨w2, hrun, ?_, g⟩
  have hok : ∀ b, ok b → b < w.heap.size → w2.heap[b]? = w.heap[b]? := fun b hb hl => g.block b hl (fun e => h.bq_no (e ▸ hb))
  have hoth : ∀ b, b < w.heap.size → b ≠ bq → w2.heap[b]? = w.heap[b]? := fun b hl hne => g.block b hl hne
  exact {
    blk := (hoth p (h.mut_ge (.inl rfl)).2 h.p_bq).trans h.blk
    keys := ownsMap_move h.keys (hoth bk h.keys.lt h.ne) (RdK_move hok g.size (fun _ h _ => h))
    preps := ownsMap_tight (ownsMap_move r1 rfl (RdP_move hok g.size (fun _ h _ => h)))
    ends := own_move h.ends (fun k hk => hoth k (own_block_lt h.ends hk).2 (fun e => h.ev_bq (e ▸ hk)))
    p_ge := h.p_ge
    bk_ge := h.bk_ge
    bq_ge := h.bq_ge
    p_no := h.p_no
    bk_no := h.bk_no
    bq_no := h.bq_no
    ev_no := h.ev_no
    ne := h.ne
    ok_lt := fun b hb => Nat.lt_of_lt_of_le (h.ok_lt b hb) g.size }

/-- A mutator that wrote one of the shelf's blocks. -/
theorem Turned.of_frm {w w' : World} {base : Nat} {ok : Nat → Prop} {p bk bq : Nat} {ev : Value} {S S' : ShS} (h : ShAt w' base ok p bk bq ev S') {T : Nat → Prop} (f : Frm w w' T) (hT : ∀ i, T i → Mut p bk bq ev i) : Turned w w' base ok p bk bq ev S' :=
  ⟨ok, ev, h, f.mono (fun i _ t => hT i t), fun _ h => .inl h, fun _ h => h, fun _ h => .inl h⟩
end Go.Proofs.Ytokfbikiicfafaa
