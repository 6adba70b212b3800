/- shelf.do: the list of ended transactions is written. -/
import Derived.Test.YtokfbikiicfafaaSu
namespace Go.Proofs.Ytokfbikiicfafaa
open Go.RowKit Go.Maps
set_option linter.unusedVariables false

/-- 's.ends = e1', behind what made it. -/
theorem ShAt.set_ends {w w1 : World} {base : Nat} {ok : Nat → Prop} {p bk bq : Nat} {ev ev1 : Value} {S : ShS} {E1 : List Fin2} (h : ShAt w base ok p bk bq ev S) (f : Frm w w1 (fun i => ev.ownBlock = some i)) (hown : w1.ownsRow base 96 2 ev1 E1.length (E1.flatMap encFin))
    (hat : ∀ k, ev1.ownBlock = some k → ev.ownBlock = some k ∨ w.heap.size ≤ k) :
    ShAt (w1.setCell ⟨p, 2, none⟩ ev1) base ok p bk bq ev1 { S with E := E1 } ∧ Frm w (w1.setCell ⟨p, 2, none⟩ ev1) (Mut p bk bq ev) := by
  have hp1 := f.obj h.blk (fun e => h.ev_p e)
  have hne : ∀ k, ev1.ownBlock = some k → k ≠ p := fun k hk e => by
    subst e
    rcases hat k hk with h1 | h1
    · exact h.ev_p h1
    · have := (h.mut_ge (.inl rfl)).2
      omega
  have fs : Frm w (w1.setCell ⟨p, 2, none⟩ ev1) (fun i => ev.ownBlock = some i ∨ i = p) := (f.mono (fun _ _ e => .inl e)).trans (Frm.setCell w1 ⟨p, 2, none⟩ ev1) (fun i _ e => .inr e)
  have hok : ∀ b, ok b → b < w.heap.size → (w1.setCell ⟨p, 2, none⟩ ev1).heap[b]? = w.heap[b]? := fun b hb hl => fs.block b hl (fun e => e.elim (fun e => h.ev_no b e hb) (fun e => h.p_no (e ▸ hb)))
  refine ⟨{
    blk := set_blk hp1
    keys := ownsMap_move h.keys (fs.block bk h.keys.lt (fun e => e.elim h.ev_bk (fun e => h.p_bk e.symm))) (RdK_move hok fs.size (fun _ h _ => h))
    preps := ownsMap_move h.preps (fs.block bq h.preps.lt (fun e => e.elim h.ev_bq (fun e => h.p_bq e.symm))) (RdP_move hok fs.size (fun _ h _ => h))
    ends := own_move hown (fun k hk => Below.heap_setCell _ _ _ _ (hne k hk))
    p_ge := h.p_ge
    bk_ge := h.bk_ge
    bq_ge := h.bq_ge
    p_no := h.p_no
    bk_no := h.bk_no
    bq_no := h.bq_no
    ev_no := fun k hk hb => by
      rcases hat k hk with h1 | h1
      · exact h.ev_no k h1 hb
      · have := h.ok_lt k hb
        omega
    ne := h.ne
    ok_lt := fun b hb => Nat.lt_of_lt_of_le (h.ok_lt b hb) fs.size }, fs.mono (fun i _ e => e.elim (fun e => .inr (.inr (.inr e))) .inl)⟩

theorem RdSl.dropK {α : Type} {k : Nat} {enc : α → List Value} {w : World} {ok : Nat → Prop} {b off : Nat} {l : List α} (h : RdSl k enc w ok (some ⟨b, off, none⟩) l) (n : Nat) : RdSl k enc w ok (some ⟨b, off + n * k, none⟩) (l.drop n) := fun hne => by
  obtain ⟨b', off', e, ho, hl, hc⟩ := h (by intro e; subst e; simp at hne)
  cases e
  refine ⟨b, off + n * k, rfl, ho, hl, fun j x hj i u hu => ?_⟩
  rw [List.getElem?_drop] at hj
  have := hc (n + j) x hj i u hu
  rw [Nat.add_mul] at this
  rw [← this]
  congr 2
  omega

/-- 'delete(m, k)' at the operation, by its run. -/
theorem wpList_delete_run {P : Program} {w : World} {ops : Array Oper} {rest : List Oper} {o : Oper} {a : Act} {Q : Exit → Act → World → Prop}
    (hg : o.guard = none) (m x : Operand) (t k : TypeId) (hop : o.op = Op.call { callee := Callee.builtin Builtin.delete, args := #[m, x], argTypes := #[t, k] }) {b : Nat} {key : Value} {w2 : World} (hm : a.eval m = .map (some b)) (hx : a.eval x = key)
    (hrun : (Builtin.delete_ #[t, k] o.type #[.map (some b), key]).run P w = .ok (.tuple #[]) w2) (hK : wpList P ops Q rest (a.put o.dst (.tuple #[])) w2) : wpList P ops Q (o :: rest) a w := by
  refine wpList_plain hg fun K' hK' => ?_
  unfold Oper.wp
  simp [execOp, hop, resolve, invoke, builtin, hm, hx, hrun, Result.andThen]
  exact hK' _ _ hK

def prepWrites (S : ShS) (txn : Int) : List Wr := match S.P.atKey (.int .i64 txn) (.held emptyRec) with | .held r => r.writes | _ => []
def cutE (E : List Fin2) : List Fin2 := if 1024 < E.length then E.drop 1 else E
def doCode (S : ShS) (txn ts : Int) : Int :=
  if 1 < (stateOf S txn).1 then (if (stateOf S txn).2 = ts then 6 else 120)
  else if (stateOf S txn).1 = 1 ∧ 0 < ts then roomCode S (prepWrites S txn) ts else 0
def doS (S : ShS) (txn ts : Int) : ShS :=
  if doCode S txn ts = 0 then
    { S with K := if (stateOf S txn).1 = 1 ∧ 0 < ts then putS S.K (prepWrites S txn) ts else S.K, P := S.P.del (.int .i64 txn), E := cutE (S.E ++ [⟨txn, ts⟩]) }
  else S
end Go.Proofs.Ytokfbikiicfafaa
