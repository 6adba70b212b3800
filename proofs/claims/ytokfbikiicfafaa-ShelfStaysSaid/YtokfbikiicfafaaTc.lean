/- Plain law: what Apply makes of a shelf keeps the shelf's invariant. No program in sight. -/
import Derived.Test.YtokfbikiicfafaaTb
namespace Go.Proofs.Ytokfbikiicfafaa
open Go.RowKit Go.Maps
set_option linter.unusedVariables false

theorem rec_nums {r : Rec} (h : recB r = true) : 0 ≤ r.txn ∧ r.txn ≤ 1125899906842623 ∧ 0 ≤ r.ts ∧ r.ts ≤ 1125899906842624 ∧ 0 ≤ r.coord ∧ r.coord < 16 := by
  unfold recB numsB at h
  simp only [Bool.and_eq_true, Bool.not_eq_true', Bool.or_eq_false_iff, decide_eq_false_iff_not] at h
  omega
theorem rec_body {r : Rec} (h : recB r = true) : recBody r = true := by
  unfold recB at h
  simp only [Bool.and_eq_true] at h
  exact h.2
/-- What a listed pair of lists is. -/
structure Listed (ks : List ByteArray) (ws : List Wr) : Prop where
  kl : ks.length ≤ 16
  wl : ws.length ≤ 16
  kn : ks.Pairwise (fun a b => a ≠ b)
  wn : ws.Pairwise (fun a b => a.key ≠ b.key)
  kk : ∀ x ∈ ks, keyB x = true
  wk : ∀ x ∈ ws, keyB x.key = true
  ww : ∀ x ∈ ws, wrB x = true
theorem listed_of {ks : List ByteArray} {ws : List Wr} (h : listedB ks ws = true) : Listed ks ws := by
  unfold listedB writesB at h
  simp only [Bool.and_eq_true, decide_eq_true_eq, List.all_eq_true] at h
  obtain ⟨⟨h1, h2⟩, h3, h4, h5⟩ := h
  refine ⟨h1, h4, rising_ne h2, ?_, (rising_lt h2).2.2, fun x hx => (rising_lt h5).2.2 _ (List.mem_map.2 ⟨x, hx, rfl⟩), h3⟩
  have := rising_ne h5
  rw [List.pairwise_map] at this
  exact this
theorem rec_prep {r : Rec} (h : recB r = true) (h1 : r.kind = 1) : Listed r.keys r.writes ∧ 0 < r.txn ∧ r.key.toList = [] ∧ r.text.toList = [] ∧ r.dead = false := by
  have hb := rec_body h
  rw [recBody_1 h1] at hb
  unfold flatB at hb
  simp only [Bool.and_eq_true, decide_eq_true_eq, Bool.not_eq_true'] at hb
  exact ⟨listed_of hb.1.1, hb.1.2, hb.2.1.1, hb.2.1.2, hb.2.2⟩
theorem rec_ver {r : Rec} (h : recB r = true) (h1 : r.kind = 3) : r.keys = [] ∧ r.writes = [] ∧ 0 < r.ts ∧ keyB r.key = true ∧ r.text.size ≤ 2052 ∧ (r.dead = true → r.text.toList = []) ∧ r.txn = 0 ∧ r.coord = 0 := by
  have hb := rec_body h
  rw [recBody_3 h1] at hb
  unfold noneB at hb
  simp only [Bool.and_eq_true, decide_eq_true_eq, Bool.or_eq_true, Bool.not_eq_true'] at hb
  obtain ⟨⟨⟨⟨⟨a, b⟩, c⟩, d⟩, e⟩, f, g⟩ := hb
  refine ⟨List.eq_nil_of_length_eq_zero (by omega), List.eq_nil_of_length_eq_zero (by omega), b, c, by omega, fun hd => ?_, by omega, by omega⟩
  rcases e with e | e
  · rw [hd] at e; cases e
  · exact e
theorem rec_do {r : Rec} (h : recB r = true) (h1 : r.kind = 2) : 0 < r.txn := by
  have hb := rec_body h
  rw [recBody_2 h1] at hb
  simp only [Bool.and_eq_true, decide_eq_true_eq] at hb
  exact hb.1.2

theorem keyB_size {s : ByteArray} (h : keyB s = true) : s.size ≤ 32 := by
  unfold keyB at h
  simp only [Bool.and_eq_true, decide_eq_true_eq] at h
  exact h.2
theorem wrB_ok {x : Wr} (h : wrB x = true) {ts : Int} (h1 : 1 ≤ ts) (h2 : ts ≤ 1125899906842624) : VerOk ⟨ts, x.sh, x.dead⟩ := by
  unfold wrB at h
  simp only [Bool.and_eq_true, decide_eq_true_eq, Bool.not_eq_true', Bool.and_eq_false_iff] at h
  refine ⟨h1, h2, h.1, fun hd => ?_⟩
  have hd' : x.dead = true := hd
  rcases h.2 with h3 | h3
  · rw [hd'] at h3; cases h3
  · show x.sh.toList = []
    cases hs : x.sh.toList with
    | nil => rfl
    | cons a l => rw [hs] at h3; simp at h3

/-! ### The invariant -/
def KOk (K : DataW (List Ver)) : Prop := ∀ kl, Maps.has K kl = true → lstAt K kl ≠ [] ∧ ChainOk (lstAt K kl)
structure StOk (S : ShS) : Prop where
  kk : KeysOk S.K
  kh : HeldAll S.K
  kc : KOk S.K
  ks : Maps.size S.K ≤ 1024
  pk : KeysOk S.P
  ph : ∀ kl, Maps.has S.P kl = true → ∃ r, (∀ z, S.P.atKey kl z = .held r) ∧ kl = .int .i64 r.txn ∧ recB r = true ∧ r.kind = 1
  ps : Maps.size S.P ≤ 1024
  es : S.E.length ≤ 1024
  ov : 0 ≤ S.over ∧ S.over ≤ 1125899906842624

theorem StOk.none : StOk ShS.none where
  kk := KeysOk.empty
  kh := fun kl h => by cases h
  kc := fun kl h => by cases h
  ks := by simp [ShS.none, Maps.size]
  pk := KeysOk.empty
  ph := fun kl h => by cases h
  ps := by simp [ShS.none, Maps.size]
  es := by simp [ShS.none]
  ov := by simp [ShS.none]

theorem lst_none {K : DataW (List Ver)} {kl : Lit} (h : Maps.has K kl = false) : lstAt K kl = [] := by
  unfold lstAt
  rw [Maps.atKey_of_not_has h]
  rfl
theorem KOk.chain {K : DataW (List Ver)} (h : KOk K) (kl : Lit) : ChainOk (lstAt K kl) := by
  cases hh : Maps.has K kl with
  | true => exact (h kl hh).2
  | false => rw [lst_none hh]; exact ChainOk.nil
theorem StOk.small {S : ShS} (h : StOk S) : SmallP S.P := fun kl r hr => by
  have hh := Maps.has_true_of_atKey hr
  obtain ⟨r', hr', _, hb, h1⟩ := h.ph kl hh
  have e : DataW.held r = DataW.held r' := (hr .nil).symm.trans (hr' .nil)
  cases e
  obtain ⟨hl, _⟩ := rec_prep hb h1
  exact ⟨hl.kl, hl.wl⟩

theorem lst_put_same {K : DataW (List Ver)} (h : KeysOk K) {s : List UInt8} (l : List Ver) : lstAt (K.put (.string s) (.held l)) (.string s) = l := by
  unfold lstAt
  rw [Maps.atKey_put_same h.isMap (isKeyS _)]
  rfl
theorem lst_put_other {K : DataW (List Ver)} {k k' : Lit} (hne : k' ≠ k) (l : List Ver) : lstAt (K.put k (.held l)) k' = lstAt K k' := by
  unfold lstAt
  rw [Maps.atKey_put_other hne]

/-- What a map of chains is behind one version more. -/
structure KAll (K : DataW (List Ver)) : Prop where
  kk : KeysOk K
  kh : HeldAll K
  kc : KOk K
theorem KAll.put {K : DataW (List Ver)} (h : KAll K) (s : List UInt8) {l : List Ver} (hne : l ≠ []) (hl : ChainOk l) : KAll (K.put (.string s) (.held l)) := by
  refine ⟨h.kk.put (isKeyS _) _, fun kl hh z => ?_, fun kl hh => ?_⟩
  · by_cases e : kl = .string s
    · subst e
      rw [Maps.atKey_put_same h.kk.isMap (isKeyS _), lst_put_same h.kk]
    · rw [Maps.has_put_other e] at hh
      rw [Maps.atKey_put_other e, lst_put_other e, h.kh kl hh z]
  · by_cases e : kl = .string s
    · subst e
      rw [lst_put_same h.kk]
      exact ⟨hne, hl⟩
    · rw [Maps.has_put_other e] at hh
      rw [lst_put_other e]
      exact h.kc kl hh

theorem room_put {K0 : DataW (List Ver)} {ts : Int} (hts : 1 ≤ ts) (hts2 : ts ≤ 1125899906842624) : ∀ (l : List Wr) (K : DataW (List Ver)) (n : Nat), roomGo K0 l n = 0 → KAll K → Maps.size K = n → n ≤ 1024 → l.Pairwise (fun a b => a.key ≠ b.key) →
    (∀ x ∈ l, isKey K x.key = isKey K0 x.key ∧ chain K x.key = chain K0 x.key ∧ lastTs (chain K0 x.key) < ts ∧ keyB x.key = true ∧ wrB x = true) →
    PutOk K l ts ∧ KAll (putS K l ts) ∧ Maps.size (putS K l ts) ≤ 1024
  | [], K, n, _, hK, hn, hn2, _, _ => ⟨trivial, hK, by unfold putS; omega⟩
  | x :: l, K, n, hr, hK, hn, hn2, hp, hx => by
    rw [roomGo_cons] at hr
    obtain ⟨a1, a2, a3, a4, a5⟩ := hx x List.mem_cons_self
    obtain ⟨p1, p2⟩ := List.pairwise_cons.1 hp
    by_cases hf : fullB K0 x.key n = true
    · rw [if_pos hf] at hr
      cases hr
    · rw [if_neg hf] at hr
      have hf' := hf
      unfold fullB at hf'
      simp only [Bool.or_eq_true, decide_eq_true_eq, not_or] at hf'
      obtain ⟨f1, f2⟩ := hf'
      have hlen : (chain K x.key).length < 1024 := by rw [a2]; omega
      have hlast : lastTs (chain K x.key) < ts := by rw [a2]; exact a3
      have hch : ChainOk (chain K x.key) := by rw [chain_eq]; exact hK.kc.chain _
      have hv := wrB_ok a5 hts hts2
      have hK1 : KAll (putOne K x ts) := hK.put _ (by simp) (hch.snoc hv hlen hlast)
      have hs1 : Maps.size (putOne K x ts) = grown K0 x.key n := by
        unfold putOne grown
        rw [Maps.size_put hK.kk.tidy]
        unfold isKey at a1
        unfold isKey
        rw [a1, hn]
      have ht := room_put hts hts2 l (putOne K x ts) (grown K0 x.key n) hr hK1 hs1 (by omega) p2 (fun y hy => by
        obtain ⟨b1, b2, b3⟩ := hx y (List.mem_cons_of_mem _ hy)
        have hne : (Lit.string y.key.data.toList) ≠ .string x.key.data.toList := fun e => p1 y hy (lit_inj e).symm
        refine ⟨?_, ?_, b3⟩
        · unfold isKey putOne
          rw [Maps.has_put_other hne]
          exact b1
        · rw [chain_eq]
          unfold putOne
          rw [lst_put_other hne, ← chain_eq]
          exact b2)
      refine ⟨⟨⟨hch, hv, hlen, hlast, ?_, ?_⟩, ht.1⟩, ht.2⟩
      · have := keyB_size a4
        unfold maxLen
        omega
      · unfold maxLen
        omega

theorem old_lt {S : ShS} {l : List Wr} {ts : Int} (h : oldB S l ts = false) {x : Wr} (hx : x ∈ l) : lastTs (chain S.K x.key) < ts := by
  unfold oldB at h
  have := List.any_eq_false.1 h x hx
  simpa using this
theorem StOk.kall {S : ShS} (h : StOk S) : KAll S.K := ⟨h.kk, h.kh, h.kc⟩
theorem room_ok {S : ShS} (h : StOk S) {l : List Wr} {ts : Int} (hr : roomCode S l ts = 0) (hts : 1 ≤ ts) (hts2 : ts ≤ 1125899906842624) (hp : l.Pairwise (fun a b => a.key ≠ b.key)) (hk : ∀ x ∈ l, keyB x.key = true) (hw : ∀ x ∈ l, wrB x = true) :
    PutOk S.K l ts ∧ KAll (putS S.K l ts) ∧ Maps.size (putS S.K l ts) ≤ 1024 := by
  unfold roomCode at hr
  cases ho : oldB S l ts with
  | true => rw [if_pos ho] at hr; cases hr
  | false =>
    rw [if_neg (by rw [ho]; simp)] at hr
    exact room_put hts hts2 l S.K _ hr h.kall rfl h.ks hp (fun x hx => ⟨rfl, rfl, old_lt ho hx, hk x hx, hw x hx⟩)

/-! ### Apply -/
def verWr (r : Rec) : List Wr := [⟨r.key, r.text, r.dead⟩]
def verCode (S : ShS) (r : Rec) : Int := roomCode S (verWr r) r.ts
def verS (S : ShS) (r : Rec) : ShS := if verCode S r = 0 then { S with K := putS S.K (verWr r) r.ts } else S
def applyCode (S : ShS) (r : Rec) : Int :=
  if recB r = false then 80 else if r.kind = 1 then prepCode S r else if r.kind = 2 then doCode S r.txn r.ts else if r.kind = 4 then sweepCode S r.ts else if r.kind = 3 then verCode S r else 80
def applyS (S : ShS) (r : Rec) : ShS :=
  if recB r = false then S else if r.kind = 1 then prepS S r else if r.kind = 2 then doS S r.txn r.ts else if r.kind = 4 then sweepS S r.ts else if r.kind = 3 then verS S r else S

theorem StOk.prep {S : ShS} (h : StOk S) {r : Rec} (hb : recB r = true) (h1 : r.kind = 1) : StOk (prepS S r) := by
  unfold prepS
  split
  · rename_i hc
    unfold prepCode at hc
    split at hc
    · cases hc
    · split at hc
      · cases hc
      · split at hc
        · cases hc
        · rename_i hsz
          refine { h with pk := h.pk.put (isKeyI _ _) _, ph := fun kl hh => ?_, ps := ?_ }
          · by_cases e : kl = .int .i64 r.txn
            · subst e
              exact ⟨r, fun z => Maps.atKey_put_same h.pk.isMap (isKeyI _ _) _ _, rfl, hb, h1⟩
            · rw [Maps.has_put_other e] at hh
              obtain ⟨r', a, b, c, d⟩ := h.ph kl hh
              exact ⟨r', fun z => by rw [Maps.atKey_put_other e]; exact a z, b, c, d⟩
          · show Maps.size (S.P.put _ _) ≤ 1024
            rw [Maps.size_put h.pk.tidy]
            split <;> omega
  · exact h
theorem upto_zero {l : List Ver} (t : Int) (h : l = []) : upto l t = 0 := by subst h; rfl
theorem sweepTs_nil (t : Int) : sweepTs [] t = [] := by simp [sweepTs]
theorem sweepTs_ok {l : List Ver} (h : ChainOk l) (t : Int) : ChainOk (sweepTs l t) := h.drop _
theorem lst_sweep {K : DataW (List Ver)} (h : KeysOk K) (t : Int) (kl : Lit) : lstAt (sweepK K t) kl = sweepTs (lstAt K kl) t := by
  obtain ⟨s1, s2⟩ := sweepK_spec h t
  cases hh : Maps.has (sweepK K t) kl with
  | true =>
    unfold lstAt
    rw [s2 kl hh]
    rfl
  | false =>
    rw [lst_none hh]
    rw [s1 kl] at hh
    cases hk : Maps.has K kl with
    | false => rw [lst_none hk, sweepTs_nil]
    | true =>
      rw [hk] at hh
      cases hs : sweepTs (lstAt K kl) t with
      | nil => rfl
      | cons _ _ => rw [hs] at hh; cases hh
theorem KAll.sweep {K : DataW (List Ver)} (h : KAll K) (t : Int) : KAll (sweepK K t) where
  kk := (sweepK_keys h.kk t).1
  kh := fun kl hh z => by rw [(sweepK_spec h.kk t).2 kl hh z, lst_sweep h.kk]
  kc := fun kl hh => by
    rw [lst_sweep h.kk]
    refine ⟨fun e => ?_, sweepTs_ok (h.kc.chain kl) t⟩
    rw [(sweepK_spec h.kk t).1 kl, e] at hh
    simp at hh
theorem StOk.sweep {S : ShS} (h : StOk S) {t : Int} (h1 : 0 ≤ t) (h2 : t ≤ 1125899906842624) : StOk (sweepS S t) := by
  unfold sweepS
  split
  · exact h
  · have hk := h.kall.sweep t
    exact { h with kk := hk.kk, kh := hk.kh, kc := hk.kc, ks := Nat.le_trans (sweepK_keys h.kk t).2 h.ks, ov := ⟨h1, h2⟩ }
theorem StOk.ver {S : ShS} (h : StOk S) {r : Rec} (hb : recB r = true) (h1 : r.kind = 3) : StOk (verS S r) := by
  unfold verS
  split
  · rename_i hc
    obtain ⟨_, _, ht, hk, hx, hd, _, _⟩ := rec_ver hb h1
    obtain ⟨_, _, _, ht2, _, _⟩ := rec_nums hb
    obtain ⟨_, hk, hs⟩ := room_ok h (l := verWr r) hc (by omega) ht2 (by simp [verWr]) (fun x hxm => by rw [List.mem_singleton.1 hxm]; exact hk) (fun x hxm => by
      rw [List.mem_singleton.1 hxm]
      unfold wrB
      simp only [Bool.and_eq_true, decide_eq_true_eq, Bool.not_eq_true', Bool.and_eq_false_iff]
      refine ⟨hx, ?_⟩
      cases hdd : r.dead with
      | false => exact .inl rfl
      | true => right; rw [hd hdd]; rfl)
    exact { h with kk := hk.kk, kh := hk.kh, kc := hk.kc, ks := hs }
  · exact h
theorem cutE_len {E : List Fin2} (h : E.length ≤ 1025) : (cutE E).length ≤ 1024 := by
  unfold cutE
  split
  · rw [List.length_drop]; omega
  · omega
/-- The writes of one that is prepared. -/
theorem prep_listed {S : ShS} (h : StOk S) {txn : Int} (hs : (stateOf S txn).1 = 1) : ∃ r, (∀ z, S.P.atKey (.int .i64 txn) z = .held r) ∧ prepWrites S txn = r.writes ∧ Listed r.keys r.writes ∧ r.txn = txn := by
  have hh : Maps.has S.P (.int .i64 txn) = true := by
    unfold stateOf at hs
    split at hs
    · assumption
    · unfold finOf at hs
      split at hs
      · cases hs
      · split at hs <;> cases hs
  obtain ⟨r, a, b, c, d⟩ := h.ph _ hh
  refine ⟨r, a, by unfold prepWrites; rw [a], (rec_prep c d).1, ?_⟩
  injection b with _ b
  exact b.symm
theorem prep_room {S : ShS} (h : StOk S) {txn ts : Int} (hs : (stateOf S txn).1 = 1) (ht : 0 < ts) (ht2 : ts ≤ 1125899906842624) :
    (prepWrites S txn).length ≤ 1024 ∧ (∀ x ∈ prepWrites S txn, x.key.size ≤ maxLen) ∧ (roomCode S (prepWrites S txn) ts = 0 → PutOk S.K (prepWrites S txn) ts ∧ KAll (putS S.K (prepWrites S txn) ts) ∧ Maps.size (putS S.K (prepWrites S txn) ts) ≤ 1024) := by
  obtain ⟨r, _, e, hl, _⟩ := prep_listed h hs
  rw [e]
  exact ⟨by have := hl.wl; omega, fun x hx => by have := keyB_size (hl.wk x hx); unfold maxLen; omega, fun hr => room_ok h hr (by omega) ht2 hl.wn hl.wk hl.ww⟩
theorem StOk.do {S : ShS} (h : StOk S) {txn ts : Int} (ht2 : ts ≤ 1125899906842624) : StOk (doS S txn ts) := by
  unfold doS
  split
  · rename_i hc
    have hP : (∀ kl, Maps.has (S.P.del (.int .i64 txn)) kl = true → ∃ r, (∀ z, (S.P.del (.int .i64 txn)).atKey kl z = .held r) ∧ kl = .int .i64 r.txn ∧ recB r = true ∧ r.kind = 1) := fun kl hh => by
      by_cases e : kl = .int .i64 txn
      · subst e
        rw [Maps.has_del_same] at hh
        cases hh
      · rw [Maps.has_del_other e] at hh
        obtain ⟨r', a, b, c, d⟩ := h.ph kl hh
        exact ⟨r', fun z => by rw [Maps.atKey_del_other e]; exact a z, b, c, d⟩
    have hPs : Maps.size (S.P.del (.int .i64 txn)) ≤ 1024 := by
      have := Maps.size_del (k := .int .i64 txn) h.pk.tidy
      have := h.ps
      omega
    have hE : (cutE (S.E ++ [⟨txn, ts⟩])).length ≤ 1024 := cutE_len (by have := h.es; simp; omega)
    by_cases h1 : (stateOf S txn).1 = 1 ∧ 0 < ts
    · rw [if_pos h1]
      have hr : roomCode S (prepWrites S txn) ts = 0 := by
        unfold doCode at hc
        rw [if_neg (by omega), if_pos h1] at hc
        exact hc
      obtain ⟨_, _, hp⟩ := prep_room h h1.1 h1.2 ht2
      obtain ⟨_, hk, hs⟩ := hp hr
      exact { kk := hk.kk, kh := hk.kh, kc := hk.kc, ks := hs, pk := h.pk.del _, ph := hP, ps := hPs, es := hE, ov := h.ov }
    · rw [if_neg h1]
      exact { h with pk := h.pk.del _, ph := hP, ps := hPs, es := hE }
  · exact h
theorem StOk.apply {S : ShS} (h : StOk S) (r : Rec) : StOk (applyS S r) := by
  unfold applyS
  split
  · exact h
  · rename_i hb
    have hb' : recB r = true := by simpa using hb
    obtain ⟨n1, n2, n3, n4, _, _⟩ := rec_nums hb'
    split
    · exact h.prep hb' (by assumption)
    · split
      · exact h.do n4
      · split
        · exact h.sweep n3 n4
        · split
          · exact h.ver hb' (by assumption)
          · exact h
end Go.Proofs.Ytokfbikiicfafaa
