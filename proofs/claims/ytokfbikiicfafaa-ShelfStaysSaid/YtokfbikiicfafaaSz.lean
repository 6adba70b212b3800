/- maps.DeleteFunc of chains without a version; shelf.sweep. -/
import Derived.Test.YtokfbikiicfafaaSy
namespace Go.Proofs.Ytokfbikiicfafaa
open Go.RowKit Go.Maps
set_option linter.unusedVariables false

set_option maxHeartbeats 4000000 in
set_option maxRecDepth 100000 in
theorem delfunc_any {ok : Nat → Prop} {w0 : World} {bk n : Nat} {D : DataW (List Ver)} (w : World) (h : w.ownsMap Try.prog 9 (RdK w0 ok) bk n D) (hlen : ∀ kl, Maps.has D kl = true → (lstAt D kl).length ≤ 1024) :
    Calls Try.prog 81 #[.map (some bk), .func (.func 82) #[] #[]] w fun e w' => e = .returned (.tuple #[]) ∧ ∃ D2, w'.ownsMap Try.prog 9 (RdK w0 ok) bk n D2 ∧ Frm w w' (fun i => i = bk) ∧
      (∀ kl, Maps.has D2 kl = (Maps.has D kl && !(lstAt D kl).isEmpty)) ∧ (∀ kl, Maps.has D2 kl = true → ∀ z, D2.atKey kl z = .held (lstAt D kl)) := by
  have HA := Lib.hid (own_heldAll h lawS)
  have HL := Lib.hid hlen
  have hlt := h.lt
  clear hlen
  have eg : ∀ args w, (callFunc 82 args).run Try.prog w = .ok (.enter 82 args) w := enters_of Try.func82 (by kernel_rfl) rfl
  go_enter Try.func81, Try.ntmps81
  go_wp2_with (first
    | (at_range; refine wpList_range_own _ rfl _ 74 rfl 9 81 lawS Try.underlying74 _ bk _ _ rfl h ?_; intro w1 hrg0 hg0 hs0))
  go_frame
  have f0 : Frm w w1 (fun i => i = bk) := ⟨hg0.os, hg0.tape, hg0.output, hg0.size, fun i hi _ => hg0.block i hi (by simp)⟩
  go_loopw [8] (fun _ wr => ∃ left cnt E, wr.ranges Try.prog 9 (RdK w0 ok) bk w.heap.size n E left cnt ∧ Aside (Frm w wr (fun i => i = bk)) ∧ Aside (∀ kl, Maps.has E kl = (Maps.has D kl && (left kl || !(lstAt D kl).isEmpty))) ∧ Aside (∀ kl, Maps.has E kl = true → ∀ z, E.atKey kl z = .held (lstAt D kl)))
    (fun _ wr => wr.rangeLeft bk w.heap.size)
  case atStart => exact ⟨_, _, _, hrg0, f0, (show Aside _ from fun kl => by cases Maps.has D kl <;> rfl), (show Aside _ from fun kl hk z => HA.out kl hk z)⟩
  case round =>
    obtain ⟨left, cnt, E, hrg, FW, F1, F2⟩ := hrel
    go_wp2_with (first
      | (at_next; refine wpList_next_ranges _ rfl _ rfl 9 lawS (RdK w0 ok) Value.string (fun v : Value => v) (fun kk kl hk => by obtain ⟨x, hx, _⟩ := keyOf_string_inv Try.underlying9 hk; exact ⟨x, hx⟩) (fun v y _ => ⟨v, rfl⟩) bk w.heap.size n E left cnt rfl hrg ?_ ?_))
    · intro hc0 hl0
      have hh : ∀ kl, Maps.has E kl = (Maps.has D kl && !(lstAt D kl).isEmpty) := fun kl => by rw [F1.out kl, hl0 kl]; rfl
      have HH := Lib.hid hh
      have HO := Lib.hid hrg.owns
      clear hh hl0 hrg h
      go_wp2
      go_end0
      exact ⟨rfl, E, HO.out, FW.out, HH.out, F2.out⟩
    · intro x v kl yd yp w2 cnt2 hkey hlk hv hat hrg2 hlt2 hg2 hs2 hen
      obtain ⟨l, ⟨A, c, ev, _, _, _⟩, ez⟩ := RdK_inv hv
      obtain ⟨rfl, rfl⟩ := Prod.mk.inj ez
      subst ev
      have hE : Maps.has E kl = true := Maps.has_true_of_atKey hat
      have hDl : Maps.has D kl = true := by
        have := F1.out kl
        rw [hE] at this
        cases hd : Maps.has D kl with
        | true => rfl
        | false => rw [hd] at this; cases this
      have el : lstAt D kl = l := by
        have := (F2.out kl hE .nil).symm.trans (hat .nil)
        cases this
        rfl
      have hl1024 := HL.out kl hDl
      rw [el] at hl1024
      have hcnt := Lib.hid hrg.left_eq
      have ff := Lib.hid (FW.out.trans (T := fun i => i = w.heap.size) ⟨hg2.os, hg2.tape, hg2.output, hg2.size, fun i hi hn => hg2.block i hi (fun e => hn (by cases e; rfl))⟩ (fun i hi e => by subst e; exact absurd hi (Nat.lt_irrefl _)) : Frm w w2 (fun i => i = bk))
      have hS := fun (W : World) => sweep1_any A l.length c x W (by omega)
      have hkl : ∀ kl2, Maps.has E kl2 = (Maps.has D kl2 && (left kl2 || !(lstAt D kl2).isEmpty)) := F1.out
      have hF2 := Lib.hid F2.out
      have hnext : Hid (l ≠ [] → ∀ kl2, Maps.has E kl2 = (Maps.has D kl2 && ((left kl2 && !kl2.sameKey kl) || !(lstAt D kl2).isEmpty))) := fun hne kl2 => by
        rw [hkl kl2]
        cases hs : kl2.sameKey kl with
        | false => simp
        | true =>
          obtain rfl := WideAt.sameKey_eq hs
          rw [el]
          cases l with
          | nil => exact absurd rfl hne
          | cons _ _ => simp
      have hdel : Hid (l = [] → ∀ kl2, Maps.has (E.del kl) kl2 = (Maps.has D kl2 && ((left kl2 && !kl2.sameKey kl) || !(lstAt D kl2).isEmpty))) := fun he kl2 => by
        cases hs : kl2.sameKey kl with
        | true =>
          obtain rfl := WideAt.sameKey_eq hs
          rw [el, he, Maps.has_del_same]
          simp
        | false =>
          have hn : kl2 ≠ kl := fun e => by
            subst e
            have := (hrg.owns.canon lawS)
            obtain ⟨es, rfl, _, hk⟩ := this
            obtain ⟨e, he, rfl, _⟩ := at_entry hE
            rw [WideAt.sameKey_self (hk e he)] at hs
            cases hs
          rw [Maps.has_del_other hn, hkl kl2]
          simp
      have HK := Lib.hid hkey
      have HR2 := Lib.hid hrg2
      clear hs2 hrg FW F1 F2 hv hlk hat hg2 hkl hE hDl el h hkey hrg2
      by_cases hn : l = []
      · have hD' := Lib.hid (hdel.out hn)
        have hSt := fun (W : World) => sweep1_any A 0 c x W (by omega)
        subst hn
        have hrg2 := HR2.out
        clear hnext hdel hS hl1024
        go_wp2_with (first | (go_at_fn 82; refine (hSt _).mono ?_; rintro e w3 ⟨rfl, rfl⟩) | (at_delete; refine wpList_delete_ranges _ rfl _ _ 74 9 rfl 81 lawS Try.underlying74 (RdK w0 ok) bk w.heap.size n E _ cnt2 rfl hrg2 _ kl rfl HK.out ?_; intro w4 cnt4 hrg4 hle4 hturn4))
        have HR4 := Lib.hid hrg4
        have HT4 := Lib.hid hturn4
        clear hrg4 hturn4 hrg2
        go_wp2
        go_frame
        go_roundw
        case rel =>
          have hr4 := HR4.out
          rw [Maps.strike_twice] at hr4
          have f4 := Frm.of_turned HT4.out
          refine ⟨_, cnt4, _, hr4, ff.out.trans f4 (fun _ _ e => e), (show Aside _ from hD'.out), (show Aside _ from fun kl2 h2 z => ?_)⟩
          by_cases e : kl2 = kl
          · subst e
            rw [Maps.has_del_same] at h2
            cases h2
          · rw [Maps.atKey_del_other e]
            rw [Maps.has_del_other e] at h2
            exact hF2.out kl2 h2 z
        case measure => rw [HR4.out.left_eq, hcnt.out]; omega
      · have hE2 := Lib.hid (hnext.out hn)
        have d : decide (l.length = 0) = false := decide_eq_false (fun e => hn (List.eq_nil_of_length_eq_zero e))
        rw [d] at hS
        clear hnext hdel hn d
        go_wp2_with (first | (go_at_fn 82; refine (hS _).mono ?_; rintro e w3 ⟨rfl, rfl⟩))
        go_roundw
        case rel => exact ⟨_, cnt2, _, HR2.out, ff.out, (show Aside _ from hE2.out), (show Aside _ from hF2.out)⟩
        case measure => rw [HR2.out.left_eq, hcnt.out]; exact hlt2

/-- The time below which it was swept is written. -/
theorem ShAt.set_over {w : World} {base : Nat} {ok : Nat → Prop} {p bk bq : Nat} {ev : Value} {S : ShS} (h : ShAt w base ok p bk bq ev S) (t : Int) : ShAt (w.setCell ⟨p, 3, none⟩ (.int .i64 t)) base ok p bk bq ev { S with over := t } := by
  have f := Frm.setCell w ⟨p, 3, none⟩ (.int .i64 t)
  have hok : ∀ b, ok b → b < w.heap.size → (w.setCell ⟨p, 3, none⟩ (.int .i64 t)).heap[b]? = w.heap[b]? := fun b hb hl => f.block b hl (fun e => h.p_no (by rw [show b = p from e] at hb; exact hb))
  exact {
    blk := set_blk h.blk
    keys := ownsMap_move h.keys (f.block bk h.keys.lt (fun e => h.p_bk e.symm)) (RdK_move hok f.size (fun _ h _ => h))
    preps := ownsMap_move h.preps (f.block bq h.preps.lt (fun e => h.p_bq e.symm)) (RdP_move hok f.size (fun _ h _ => h))
    ends := own_move h.ends (fun k hk => f.block k (own_block_lt h.ends hk).2 (fun e => h.ev_p (by rw [hk, show k = p from e])))
    p_ge := h.p_ge
    bk_ge := h.bk_ge
    bq_ge := h.bq_ge
    p_no := h.p_no
    bk_no := h.bk_no
    bq_no := h.bq_no
    ev_no := h.ev_no
    ne := h.ne
    ok_lt := fun b hb => Nat.lt_of_lt_of_le (h.ok_lt b hb) f.size }

/-- The map of keys is another one, in its block. -/
theorem ShAt.set_keys {w w1 : World} {base : Nat} {ok ok1 : Nat → Prop} {p bk bq : Nat} {ev : Value} {S : ShS} {K1 : DataW (List Ver)} {n : Nat} (h : ShAt w base ok p bk bq ev S) (f : Frm w w1 (fun i => i = bk)) (i1 : ∀ b, ok b → ok1 b) (g1 : ∀ b, ok1 b → ok b ∨ w.heap.size ≤ b) (l1 : ∀ b, ok1 b → b < w1.heap.size)
    (hk : w1.ownsMap Try.prog 9 (RdK w1 ok1) bk n K1) : ShAt w1 base ok1 p bk bq ev { S with K := K1 } := by
  have hok : ∀ b, ok b → b < w.heap.size → w1.heap[b]? = w.heap[b]? := fun b hb hl => f.block b hl (fun e => h.bk_no (by rw [← show b = bk from e]; exact hb))
  have hoth : ∀ b, b < w.heap.size → b ≠ bk → w1.heap[b]? = w.heap[b]? := fun b hl hne => f.block b hl hne
  have hno : ∀ b, ¬ ok b → b < w.heap.size → ¬ ok1 b := fun b hn hl h1 => (g1 b h1).elim hn (fun h2 => by omega)
  exact {
    blk := (hoth p (h.mut_ge (.inl rfl)).2 h.p_bk).trans h.blk
    keys := ownsMap_tight hk
    preps := ownsMap_move h.preps (hoth bq h.preps.lt (fun e => h.ne e.symm)) (RdP_move hok f.size (fun b hb _ => i1 b hb))
    ends := own_move h.ends (fun k hk => hoth k (own_block_lt h.ends hk).2 (fun e => h.ev_bk (e ▸ hk)))
    p_ge := h.p_ge
    bk_ge := h.bk_ge
    bq_ge := h.bq_ge
    p_no := hno p h.p_no (h.mut_ge (.inl rfl)).2
    bk_no := hno bk h.bk_no h.keys.lt
    bq_no := hno bq h.bq_no h.preps.lt
    ev_no := fun k hk => hno k (h.ev_no k hk) (own_block_lt h.ends hk).2
    ne := h.ne
    ok_lt := l1 }

def sweepCode (S : ShS) (t : Int) : Int := if t < S.over then 110 else 0
def sweepS (S : ShS) (t : Int) : ShS := if t < S.over then S else { S with K := sweepK S.K t, over := t }
end Go.Proofs.Ytokfbikiicfafaa
