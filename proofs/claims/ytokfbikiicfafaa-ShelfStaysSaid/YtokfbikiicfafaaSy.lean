/- What a sweep leaves of a map of chains; maps.DeleteFunc over it. -/
import Derived.Test.YtokfbikiicfafaaSx
import Derived.Maps.Ext
namespace Go.Proofs.Ytokfbikiicfafaa
open Go.RowKit Go.Maps
open Go.WideElems (Fit rd rg pl rd_key rd_mk rd_val rg_of other_key rd_stay)
set_option linter.unusedVariables false

/-- The chain at a key. -/
def lstOf (d : DataW (List Ver)) : List Ver := match d with | .held l => l | _ => []
def lstAt (K : DataW (List Ver)) (kl : Lit) : List Ver := lstOf (K.atKey kl (.held []))
theorem chain_eq (K : DataW (List Ver)) (key : ByteArray) : chain K key = lstAt K (.string key.data.toList) := rfl

def sweepK (K : DataW (List Ver)) (t : Int) : DataW (List Ver) :=
  match K with
  | .map es => .map (es.filterMap fun p => if sweepTs (lstOf p.2) t = [] then none else some (p.1, .held (sweepTs (lstOf p.2) t)))
  | _ => .map []

theorem keyOf_string_inv {P : Program} {k : TypeId} (hk : P.underlying k = some .string) {key : Value} {kl : Lit} (h : keyOf P k key = some kl) : ∃ s : ByteArray, key = .string s ∧ kl = .string s.data.toList ∧ s.size ≤ maxLen := by
  cases key <;> simp [keyOf, hk, mapKey] at h
  exact ⟨_, rfl, h.2.symm, h.1⟩

/-- Every entry of a map whose elements read as things held holds one. -/
theorem own_held {H : Type} {P : Program} {k : TypeId} {R : Value → Option (DataW H × List MemPlace)} {w : World} {b n : Nat} {D : DataW H} (h : w.ownsMap P k R b n D) (K : Keyed P k) (hR : ∀ v z, R v = some z → ∃ l, z.1 = .held l) {kl : Lit} (hh : Maps.has D kl = true) : ∃ l, ∀ z, D.atKey kl z = .held l := by
  obtain ⟨es, clock, hb, F, hs, rfl⟩ := h
  obtain ⟨e, he, rfl, hat⟩ := at_entry hh
  obtain ⟨x, hx, rfl⟩ := List.mem_map.1 (mem_sorted.1 he)
  obtain ⟨y, hy⟩ := F.reads x hx
  obtain ⟨z, hz, hzd⟩ := rd_val hy
  obtain ⟨l, hl⟩ := hR _ _ hz
  exact ⟨l, fun z' => by rw [hat z', rg_of hy, hzd, hl]⟩
theorem RdK_held {w : World} {ok : Nat → Prop} (v : Value) (z : DataW (List Ver) × List MemPlace) (h : RdK w ok v = some z) : ∃ l, z.1 = .held l := by
  obtain ⟨l, _, rfl⟩ := RdK_inv h
  exact ⟨l, rfl⟩

/-- All entries hold chains. -/
def HeldAll (K : DataW (List Ver)) : Prop := ∀ kl, Maps.has K kl = true → ∀ z, K.atKey kl z = .held (lstAt K kl)
theorem own_heldAll {P : Program} {k : TypeId} {w w0 : World} {ok : Nat → Prop} {b n : Nat} {K : DataW (List Ver)} (h : w.ownsMap P k (RdK w0 ok) b n K) (Kd : Keyed P k) : HeldAll K := fun kl hh z => by
  obtain ⟨l, hl⟩ := own_held h Kd RdK_held hh
  unfold lstAt
  rw [hl, hl]
  rfl

/-- Entries, no key twice, each key a key. -/
def KeysOk {H : Type} (D : DataW H) : Prop := ∃ es, D = .map es ∧ es.Pairwise (fun p q => p.1 ≠ q.1) ∧ ∀ p ∈ es, WideAt.IsKeyLit p.1
theorem Canon.keysOk {H : Type} {D : DataW H} (h : Maps.Canon D) : KeysOk D := by
  obtain ⟨es, e, hp, hk⟩ := h
  exact ⟨es, e, Maps.apart_of_rising hp, hk⟩
theorem sweepK_mem {es : List (Lit × DataW (List Ver))} {t : Int} (q : Lit × DataW (List Ver)) : q ∈ es.filterMap (fun p => if sweepTs (lstOf p.2) t = [] then none else some (p.1, DataW.held (sweepTs (lstOf p.2) t))) ↔ ∃ p ∈ es, sweepTs (lstOf p.2) t ≠ [] ∧ (p.1, DataW.held (sweepTs (lstOf p.2) t)) = q := by
  rw [List.mem_filterMap]
  refine ⟨fun ⟨p, hp, h⟩ => ?_, fun ⟨p, hp, h, e⟩ => ⟨p, hp, by rw [if_neg h, e]⟩⟩
  split at h
  · cases h
  · rename_i hn
    cases h
    exact ⟨p, hp, hn, rfl⟩
theorem sweepK_canon {K : DataW (List Ver)} (c : Maps.Canon K) (t : Int) : Maps.Canon (sweepK K t) := by
  obtain ⟨es, rfl, hp, hk⟩ := c
  refine ⟨_, rfl, ?_, fun q hq => ?_⟩
  · rw [List.pairwise_filterMap]
    refine hp.imp fun {a b} hab x hx y hy => ?_
    split at hx
    · cases hx
    · split at hy
      · cases hy
      · cases hx
        cases hy
        exact hab
  · obtain ⟨p, hpm, _, rfl⟩ := (sweepK_mem q).1 hq
    exact hk p hpm
theorem sweepK_keys {K : DataW (List Ver)} (c : KeysOk K) (t : Int) : KeysOk (sweepK K t) ∧ Maps.size (sweepK K t) ≤ Maps.size K := by
  obtain ⟨es, rfl, hp, hk⟩ := c
  unfold sweepK
  refine ⟨⟨_, rfl, ?_, fun q hq => ?_⟩, ?_⟩
  · rw [List.pairwise_filterMap]
    refine hp.imp fun {a b} hab x hx y hy => ?_
    split at hx
    · cases hx
    · split at hy
      · cases hy
      · cases hx
        cases hy
        exact hab
  · obtain ⟨p, hpm, _, rfl⟩ := (sweepK_mem q).1 hq
    exact hk p hpm
  · rw [Maps.size_eq, Maps.size_eq]
    exact List.length_filterMap_le _ _
theorem sweepK_spec {K : DataW (List Ver)} (c : KeysOk K) (t : Int) :
    (∀ kl, Maps.has (sweepK K t) kl = (Maps.has K kl && !(sweepTs (lstAt K kl) t).isEmpty)) ∧ (∀ kl, Maps.has (sweepK K t) kl = true → ∀ z, (sweepK K t).atKey kl z = .held (sweepTs (lstAt K kl) t)) := by
  obtain ⟨es, rfl, hne, hk⟩ := c
  have lst : ∀ p ∈ es, lstAt (.map es) p.1 = lstOf p.2 := fun p hpm => by
    unfold lstAt
    rw [(entry_at hne hk hpm).2]
  obtain ⟨⟨es', e', hp', hk'⟩, _⟩ := sweepK_keys (K := .map es) ⟨es, rfl, hne, hk⟩ t
  refine ⟨fun kl => ?_, fun kl hkl z => ?_⟩
  · cases h1 : Maps.has (.map es) kl with
    | false =>
      cases h2 : Maps.has (sweepK (.map es) t) kl with
      | false => rfl
      | true =>
        obtain ⟨q, hq, hqe, _⟩ := at_entry h2
        obtain ⟨p, hpm, _, rfl⟩ := (sweepK_mem q).1 hq
        have := (entry_at hne hk hpm).1
        simp only at hqe
        rw [hqe, h1] at this
        cases this
    | true =>
      obtain ⟨p, hpm, rfl, _⟩ := at_entry h1
      rw [lst p hpm]
      by_cases hn : sweepTs (lstOf p.2) t = []
      · rw [hn]
        cases h2 : Maps.has (sweepK (.map es) t) p.1 with
        | false => rfl
        | true =>
          obtain ⟨q, hq, hqe, _⟩ := at_entry h2
          obtain ⟨p', hpm', hn', rfl⟩ := (sweepK_mem q).1 hq
          simp only at hqe
          have l1 := lst p hpm
          have l2 := lst p' hpm'
          rw [hqe, l1] at l2
          rw [← l2] at hn'
          exact absurd hn hn'
      · have hq := (sweepK_mem _).2 ⟨p, hpm, hn, rfl⟩
        have e2 := e'
        unfold sweepK at e2
        cases e2
        have := (entry_at hp' hk' hq).1
        rw [show sweepK (.map es) t = _ from e']
        rw [this]
        cases hs : sweepTs (lstOf p.2) t with
        | nil => exact absurd hs hn
        | cons _ _ => rfl
  · obtain ⟨q, hq, rfl, hat⟩ := at_entry hkl
    obtain ⟨p, hpm, hn, rfl⟩ := (sweepK_mem q).1 hq
    rw [show lstAt (.map es) (p.1, DataW.held (sweepTs (lstOf p.2) t)).1 = _ from lst p hpm]
    exact hat z

theorem sweep1_any (A : Option Addr) (n c : Nat) (key : ByteArray) (w : World) (hn : n ≤ 9223372036854775807) :
    Calls Try.prog 82 #[.string key, .slice A n c] w fun e w' => e = .returned (.bool (decide (n = 0))) ∧ w = w' := by
  by_cases h : n = 0
  · subst h
    go_enter Try.func82, Try.ntmps82
    go_wp2
    go_ret
    exact ⟨rfl, rfl⟩
  · have d : ((n : Int) == 0) = false := beq_eq_false_iff_ne.2 (by omega)
    rw [decide_eq_false h]
    go_enter Try.func82, Try.ntmps82
    go_wp2
    go_ret
    exact ⟨rfl, rfl⟩
end Go.Proofs.Ytokfbikiicfafaa
