/- A store at a key that is there, in the round of a range over the map. -/
import Derived.Test.YtokfbikiicfafaaSw
namespace Go.Proofs.Ytokfbikiicfafaa
open Go.RowKit Go.Maps
open Go.ChangeMaps Go.MapKept
open Go.WideElems (Fit rd rg pl rd_key rd_mk rd_val rg_of other_key rd_stay)
set_option linter.unusedVariables false

theorem left_size (es : Array MapEntry) (seen : Array Nat) : (leftOf es seen).size = ((es.toList.map MapEntry.born).filter fun n => !seen.contains n).length := by
  unfold leftOf
  rw [← Array.length_toList, Array.toList_filter, List.filter_map, List.length_map]
  rfl

/-- 'm[k] = v' IN THE ROUND, at a key that is there: who is still to come stays. The elements may read otherwise from here on, if those that read do so alike. -/
theorem ranges_put {H : Type} {P : Program} {k : TypeId} {R R' : Value → Option (DataW H × List MemPlace)} {w : World} {b r n : Nat} {D : DataW H} {left : Lit → Bool} {cnt : Nat} {t e : TypeId} (h : w.ranges P k R b r n D left cnt) (K : Keyed P k) (ht : P.underlying t = some (.map k e))
    (hs : ∀ v z, R v = some z → R' v = some z) {key val : Value} {kl : Lit} {yv : DataW H × List MemPlace} (hkey : keyOf P k key = some kl) (hv : R' val = some yv) (hhas : Maps.has D kl = true) :
    ∃ w', (Instr.mapUpdate t (.map (some b)) key val).run P w = .ok () w' ∧ w'.ranges P k R' b r n (D.put kl yv.1) left cnt ∧ w.mapTurned w' b := by
  have hne := h.ne
  obtain ⟨es, clock, since, seen, c0, hb, F, hsz, rfl, hr, hold, rfl, hl1, hl2, hsc, hsk⟩ := h
  rcases K.find w hkey es.toList F.keys with ⟨h1, h2⟩ | ⟨j, e0, h1, h2, h3⟩
  · exfalso
    obtain ⟨p, hp, hpk⟩ := List.any_eq_true.1 hhas
    obtain ⟨x, hx, rfl⟩ := List.mem_map.1 (mem_sorted.1 hp)
    obtain ⟨y, hy⟩ := F.reads x hx
    have m1 := rd_key hy
    have e1 := WideAt.sameKey_eq hpk
    rw [rg_of hy] at e1
    rw [e1] at m1
    exact h2 x hx (K.inj m1 hkey)
  · obtain ⟨F1, hmap, _⟩ := F.stay (R' := R') (fun x _ z hz => hs _ _ hz)
    have hj : es[j]? = some e0 := by simpa using h2
    have hjl : j < es.toList.length := (List.getElem?_eq_some_iff.1 h2).1
    have hkeyf : ∀ e', es[j]? = some e' → ({ e' with key := key, val := val } : MapEntry).key = e'.key := fun e' he' => by rw [hj] at he'; cases he'; exact h3.symm
    have hlist : (es.modify j (fun e' => { e' with key := key, val := val })).toList = es.toList.set j { e0 with key := key, val := val } := by rw [Array.toList_modify, modify_eq_set _ _ _ _ h2]
    have who : ∀ x ∈ es.toList.set j { e0 with key := key, val := val }, x = { e0 with key := key, val := val } ∨ (x ∈ es.toList ∧ x.key ≠ key) := by
      intro x hx
      obtain ⟨i, hi, ex⟩ := List.getElem_of_mem hx
      rw [List.getElem_set] at ex
      split at ex
      · exact Or.inl ex.symm
      · rename_i hne
        have hi' : i < es.toList.length := by simpa using hi
        refine Or.inr ⟨ex ▸ List.getElem_mem hi', ?_⟩
        rw [← h3]
        exact other_key F h2 (by rw [List.getElem?_eq_getElem hi', ex]) (fun e1 => hne e1.symm)
    have hborn : (es.toList.set j { e0 with key := key, val := val }).map MapEntry.born = es.toList.map MapEntry.born := by
      rw [List.map_set]
      refine List.ext_getElem? fun i => ?_
      rw [List.getElem?_set]
      split
      · rename_i hji
        subst hji
        simp [h2]
        simpa using hjl
      · rfl
    have hm0 : e0 ∈ es.toList := List.mem_of_getElem? h2
    obtain ⟨y0, hy0⟩ := F.reads e0 hm0
    have m0 := rd_key hy0
    rw [h3, hkey] at m0
    have ek0 : (rg P k R e0).1 = kl := by rw [rg_of hy0]; exact (Option.some.inj m0).symm
    have ekn : (rg P k R' { e0 with key := key, val := val }).1 = kl := by rw [rg_of (rd_mk hkey hv)]
    have same : ∀ x ∈ es.toList, rg P k R' x = rg P k R x := fun x hx => by
      obtain ⟨y, hy⟩ := F.reads x hx
      have hy' := rd_stay (hs x.val) hy
      rw [rg_of hy, rg_of hy']
    refine ⟨setBlock w b (.map (es.modify j (fun e' => { e' with key := key, val := val })) clock), ?_,
      ⟨es.modify j (fun e' => { e' with key := key, val := val }), clock, since, seen, c0, heap_setBlock_same hb _, ⟨by simpa using F.size, stamped_modify F.stamped _ _ (fun _ _ => rfl) (fun e' _ he' => hkeyf e' he'), ?_⟩, by simpa using hsz, ?_, (heap_setBlock_other hb _ hne).trans hr, ?_, ?_, ?_, ?_, hsc, hsk⟩, ⟨es, clock, _, clock, hb, rfl⟩⟩
    · simp [Instr.mapUpdate, run_underlying ht, MapKept.run_getObj_map hb, K.check w false hkey, h1, hj, h3, K.stays w hkey, MapKept.run_setObj_map _ hb, Result.andThen, setBlock]
    · intro x hx
      rw [hlist] at hx
      rcases who x hx with rfl | ⟨hx', hne⟩
      · exact ⟨_, rd_mk hkey hv⟩
      · exact F1.reads x hx'
    · rw [DataW.put_eq, ← hmap]
      congr 1
      symm
      refine sorted_put K.one ⟨key, hkey⟩ (fit_keys F1) (fit_apart K F1) ?_
      rw [filter_one K F1 hkey h2 h3, hlist, List.map_set, rg_of (rd_mk hkey hv)]
      exact set_perm _ _ (by simpa using hjl) _
    · intro x hx
      rw [hlist] at hx
      rcases who x hx with rfl | ⟨hx', _⟩
      · exact hold e0 hm0
      · exact hold x hx'
    · rw [left_size, left_size, hlist, hborn]
    · intro x hx
      rw [hlist] at hx
      rcases who x hx with rfl | ⟨hx', _⟩
      · rw [ekn, ← ek0]
        exact hl1 e0 hm0
      · rw [same x hx']
        exact hl1 x hx'
    · intro x0 hx0
      obtain ⟨x, hx, rfl⟩ := hl2 x0 hx0
      obtain ⟨i, hi⟩ := List.getElem?_of_mem hx
      by_cases hij : i = j
      · subst hij
        rw [h2] at hi
        cases hi
        refine ⟨{ e0 with key := key, val := val }, ?_, by rw [ekn, ek0]⟩
        rw [hlist]
        exact List.mem_iff_getElem.2 ⟨i, by simpa using hjl, by simp⟩
      · refine ⟨x, ?_, same x hx ▸ rfl⟩
        rw [hlist]
        exact List.mem_of_getElem? (i := i) (by rw [List.getElem?_set_ne (fun e => hij e.symm)]; exact hi)
end Go.Proofs.Ytokfbikiicfafaa
