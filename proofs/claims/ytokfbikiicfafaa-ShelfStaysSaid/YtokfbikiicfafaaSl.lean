/- A lookup in a map whose block stands still gives one value in every world; the walks State, Last, Read, Swept, New. -/
import Derived.Test.YtokfbikiicfafaaSk
namespace Go.Proofs.Ytokfbikiicfafaa
open Go.RowKit Go.Maps
open Go.MapKept
open Go.WideElems (Fit rd rg pl rd_val elemAt)
set_option linter.unusedVariables false

theorem look_all {H : Type} {P : Program} {k t e : TypeId} {R : Value → Option (DataW H × List MemPlace)} {w : World} {b n : Nat} {D : DataW H} (c : Bool) (h : w.ownsMap P k R b n D) (K : Keyed P k) (ht : P.underlying t = some (.map k e)) {z : Value} (hz : ∀ W, (zeroValue e).run P W = .ok z W) {zd : DataW H} {zp : List MemPlace} (hzd : R z = some (zd, zp))
    {key : Value} {kl : Lit} (hkey : keyOf P k key = some kl) : ∃ v ps, (∀ W : World, W.heap[b]? = w.heap[b]? → (Instr.lookup t (.map (some b)) key c).run P W = .ok (if c then .tuple #[v, .bool (Maps.has D kl)] else v) W) ∧ R v = some (D.atKey kl zd, ps) := by
  obtain ⟨es, clock, hb, F, _, rfl⟩ := h
  have hn : es.toList.Pairwise (fun x y => x.key ≠ y.key) := ((stamped_iff es clock).1 F.stamped).2.2
  rcases Maps.fit_look c K ht (hz w) hb F hkey with ⟨hrun, hno, hat⟩ | ⟨e0, y, hm0, hk0, hrun, hRv, hat, _⟩
  · refine ⟨z, zp, fun W hW => ?_, by rw [hat zd]; exact hzd⟩
    rw [Maps.has_false_of_atKey hat]
    rcases Maps.fit_look c K ht (hz W) (hW.trans hb) F hkey with ⟨hrun', _, _⟩ | ⟨e1, _, hm1, hk1, _⟩
    · exact hrun'
    · exact absurd hk1 (hno e1 hm1)
  · refine ⟨e0.val, y.2, fun W hW => ?_, by rw [hat zd]; exact hRv⟩
    rw [Maps.has_true_of_atKey hat]
    rcases Maps.fit_look c K ht (hz W) (hW.trans hb) F hkey with ⟨_, hno, _⟩ | ⟨e1, _, hm1, hk1, hrun', _⟩
    · exact absurd hk0 (hno e0 hm0)
    · rw [entry_eq_of_key hn hm0 hm1 (hk0.trans hk1.symm)]
      exact hrun'

/-- The lookup at the operation, by its run. -/
theorem wpList_lookup_run {P : Program} {w : World} {ops : Array Oper} {rest : List Oper} {o : Oper} {a : Act} {Q : Exit → Act → World → Prop}
    (hg : o.guard = none) (m x : Operand) (t : TypeId) (c : Bool) (hop : o.op = Op.lookup t m x c) {b : Nat} {key res : Value} (hm : a.eval m = .map (some b)) (hx : a.eval x = key)
    (hrun : (Instr.lookup t (.map (some b)) key c).run P w = .ok res w) (hK : wpList P ops Q rest (a.put o.dst res) w) : wpList P ops Q (o :: rest) a w := by
  refine wpList_plain hg fun K' hK' => ?_
  unfold Oper.wp
  simp [execOp, hop, hm, hx, hrun, Result.andThen]
  exact hK' _ _ hK

theorem keyOf_string_mk {P : Program} {k : TypeId} (hk : P.underlying k = some .string) {s : ByteArray} (hw : s.size ≤ maxLen) : keyOf P k (.string s) = some (.string s.data.toList) := by
  simp [keyOf, hk, mapKey, hw]

def emptyRec : Rec := ⟨0, 0, 0, 0, ⟨#[]⟩, ⟨#[]⟩, false, [], []⟩
theorem RdRec_zero (w : World) (ok : Nat → Prop) : RdRec w ok (recVal emptyRec (.slice none 0 0) (.slice none 0 0)) emptyRec :=
  ⟨_, _, rfl, .nil _ _ _ _, .nil _ _ _ _⟩

/-- A lookup among the prepared: one value, which reads as a record. -/
theorem look_prep {base : Nat} {ok : Nat → Prop} {p bk bq : Nat} {ev : Value} {S : ShS} {w : World} (h : ShAt w base ok p bk bq ev S) (txn : Int) (hw : (Lit.int .i64 txn).wf = true) (c : Bool) :
    ∃ r v7 v8, RdV 1 encS w ok v7 r.keys ∧ RdV 3 encWr w ok v8 r.writes ∧ S.P.atKey (.int .i64 txn) (.held emptyRec) = .held r ∧ ∀ W : World, W.heap[bq]? = w.heap[bq]? → (Instr.lookup 75 (.map (some bq)) (.int .i64 txn) c).run Try.prog W = .ok (if c then .tuple #[recVal r v7 v8, .bool (Maps.has S.P (.int .i64 txn))] else recVal r v7 v8) W := by
  obtain ⟨v, ps, hrun, hv⟩ := look_all c h.preps lawI Try.underlying75 (z := recVal emptyRec (.slice none 0 0) (.slice none 0 0)) (fun W => by kernel_rfl) (RdP_mk (RdRec_zero w ok)) (Maps.keyOf_int_mk Try.underlying3 hw)
  obtain ⟨r, ⟨v7, v8, rfl, a, b⟩, e⟩ := RdP_inv hv
  obtain ⟨e1, _⟩ := Prod.mk.inj e
  exact ⟨r, v7, v8, a, b, e1, hrun⟩
/-- A lookup among the keys: one value, which reads as a chain. -/
theorem look_key {base : Nat} {ok : Nat → Prop} {p bk bq : Nat} {ev : Value} {S : ShS} {w : World} (h : ShAt w base ok p bk bq ev S) (key : ByteArray) (hw : key.size ≤ maxLen) (c : Bool) :
    ∃ v l, RdV 3 encVer w ok v l ∧ S.K.atKey (.string key.data.toList) (.held []) = .held l ∧ ∀ W : World, W.heap[bk]? = w.heap[bk]? → (Instr.lookup 74 (.map (some bk)) (.string key) c).run Try.prog W = .ok (if c then .tuple #[v, .bool (Maps.has S.K (.string key.data.toList))] else v) W := by
  obtain ⟨v, ps, hrun, hv⟩ := look_all c h.keys lawS Try.underlying74 (z := .slice none 0 0) (fun W => by kernel_rfl) (RdK_mk (RdV.nil 3 encVer w ok)) (keyOf_string_mk Try.underlying9 hw)
  obtain ⟨l, a, e⟩ := RdK_inv hv
  obtain ⟨e1, _⟩ := Prod.mk.inj e
  exact ⟨v, l, a, e1, hrun⟩
end Go.Proofs.Ytokfbikiicfafaa
