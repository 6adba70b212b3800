/- Walks of letter.Key, letter.Rising, letter.writes, and letter.Check at a letter of a prepared transaction's lists. -/
import Derived.Test.YtokfbikiicfafaaSf
import Derived.WalkLawsBesides
namespace Go.Proofs.Ytokfbikiicfafaa
open Go.RowKit Go.Maps
set_option linter.unusedVariables false

def keyB (s : ByteArray) : Bool := !s.toList.isEmpty && decide (s.size ≤ 32)
def leS (a b : ByteArray) : Bool := Op.bytesLess a.toList b.toList || a.toList == b.toList
def risingFrom : Option ByteArray → List ByteArray → Bool
  | _, [] => true
  | p, s :: r => keyB s && !(match p with | none => false | some q => leS s q) && risingFrom (some s) r
theorem risingFrom_cons (p : Option ByteArray) (s : ByteArray) (r : List ByteArray) : risingFrom p (s :: r) = (keyB s && !(match p with | none => false | some q => leS s q) && risingFrom (some s) r) := by cases p <;> rfl
def risingB (l : List ByteArray) : Bool := risingFrom none l

theorem key_any (s : ByteArray) (w : World) : Calls Try.prog 75 #[.string s] w fun e w' => e = .returned (.bool (keyB s)) ∧ w = w' := by
  cases h1 : s.toList.isEmpty with
  | true =>
    have e : keyB s = false := by unfold keyB; rw [h1]; rfl
    rw [e]
    go_enter Try.func75, Try.ntmps75
    go_wp2
    go_ret
    exact ⟨rfl, rfl⟩
  | false =>
    have e : keyB s = decide ((s.size : Int) ≤ 32) := by
      unfold keyB; rw [h1]
      by_cases h : s.size ≤ 32
      · rw [decide_eq_true h, decide_eq_true (by omega)]; rfl
      · rw [decide_eq_false h, decide_eq_false (by omega)]; rfl
    rw [e]
    go_enter Try.func75, Try.ntmps75
    go_wp2
    go_ret
    exact ⟨rfl, rfl⟩

set_option maxHeartbeats 2000000 in
theorem rising_any (ok : Nat → Prop) (A : Option Addr) (c : Nat) (l : List ByteArray) (w : World) (hz : RdSl 1 encS w ok A l) (hbig : l.length ≤ 9223372036854775807) :
    Calls Try.prog 127 #[.slice A l.length c] w fun e w' => e = .returned (.bool (risingB l)) ∧ Below w.heap.size w w' := by
  have HZ := Lib.hid hz
  clear hz
  go_enter Try.func127, Try.ntmps127
  go_wp2
  go_loopg [7] l.length (fun gg s7 wr => ∃ kk : Nat, kk ≤ l.length ∧ l.length - kk ≤ gg ∧ s7 = .int .i64 kk ∧ w = wr ∧ Aside (risingB l = risingFrom (if kk = 0 then none else l[kk - 1]?) (l.drop kk)))
  case atStart => exact ⟨0, Nat.zero_le _, by omega, rfl, rfl, (show Aside _ from rfl)⟩
  case round =>
    obtain ⟨kk, hkk, hg, rfl, rfl, F⟩ := hrel
    by_cases hlt : kk < l.length
    · have hltz : (kk : Int) < (l.length : Int) := by omega
      obtain ⟨x, hx⟩ : ∃ x, l[kk]? = some x := ⟨_, List.getElem?_eq_getElem hlt⟩
      have hdrop : l.drop kk = x :: l.drop (kk + 1) := by
        rw [List.drop_eq_getElem_cons hlt]
        rw [List.getElem?_eq_getElem hlt] at hx
        cases hx
        rfl
      obtain ⟨b, off, e, _, hb, hc⟩ := HZ.out (by intro h; simp [h] at hlt)
      subst e
      have l0 := hc kk x hx 0 _ rfl
      rw [Nat.add_zero, Nat.mul_one] at l0
      have hK := key_any x w
      cases hk : keyB x with
      | false =>
        rw [hk] at hK
        have hF : Hid (risingB l = false) := by
          have := F.out
          rw [hdrop, risingFrom_cons, hk] at this
          exact this
        clear hc hx F hdrop
        go_wp2_with (go_at_call 75; refine hK.mono ?_; rintro e w' ⟨rfl, rfl⟩)
        go_ret
        exact ⟨by rw [hF.out]; rfl, Below.refl _ _⟩
      | true =>
        rw [hk] at hK
        by_cases h0 : kk = 0
        · subst h0
          have hF : Hid (risingB l = risingFrom (some x) (l.drop 1)) := by
            have := F.out
            rw [hdrop, risingFrom_cons, hk] at this
            exact this
          have HX := Lib.hid hx
          clear hc hx F hdrop
          simp only [Nat.add_zero] at l0
          go_wp2_with (go_at_call 75; refine hK.mono ?_; rintro e w' ⟨rfl, rfl⟩)
          go_roundg (l.length - 1)
          case measure => omega
          case rel => exact ⟨1, by omega, by omega, by go_num, rfl, (show Aside _ from (by rw [if_neg (by decide), show 1 - 1 = 0 from rfl, HX.out]; exact hF.out : risingB l = risingFrom (if 1 = 0 then none else l[1 - 1]?) (l.drop 1)))⟩
        · obtain ⟨y, hy⟩ : ∃ y, l[kk - 1]? = some y := ⟨_, List.getElem?_eq_getElem (by omega)⟩
          have m0 := hc (kk - 1) y hy 0 _ rfl
          rw [Nat.add_zero, Nat.mul_one] at m0
          have hpos : (1 : Int) ≤ kk := by omega
          have d1 : decide (0 < (kk : Int)) = true := decide_eq_true (by omega)
          have hF : Hid (risingB l = (!(leS x y) && risingFrom (some x) (l.drop (kk + 1)))) := by
            have := F.out
            rw [hdrop, risingFrom_cons, hk, if_neg h0, hy] at this
            exact this
          have HX := Lib.hid hx
          clear hc hx F hdrop hy
          cases hle : leS x y with
          | true =>
            have d2 : (Op.bytesLess x.toList y.toList || x.toList == y.toList) = true := hle
            have HL := Lib.hid hle
            clear hle
            go_wp2_with (go_at_call 75; refine hK.mono ?_; rintro e w' ⟨rfl, rfl⟩)
            go_ret
            exact ⟨by rw [hF.out, HL.out]; rfl, Below.refl _ _⟩
          | false =>
            have d2 : (Op.bytesLess x.toList y.toList || x.toList == y.toList) = false := hle
            have HL := Lib.hid hle
            clear hle
            go_wp2_with (go_at_call 75; refine hK.mono ?_; rintro e w' ⟨rfl, rfl⟩)
            go_roundg (l.length - (kk + 1))
            case measure => omega
            case rel => exact ⟨kk + 1, by omega, by omega, by go_num, rfl, (show Aside _ from (by rw [if_neg (by omega), show kk + 1 - 1 = kk from rfl, HX.out, hF.out, HL.out]; rfl : risingB l = risingFrom (if kk + 1 = 0 then none else l[kk + 1 - 1]?) (l.drop (kk + 1))))⟩
    · have hltz : ¬ (kk : Int) < (l.length : Int) := by omega
      have : kk = l.length := by omega
      subst this
      go_wp2
      go_ret
      exact ⟨by rw [F.out, List.drop_length]; rfl, Below.refl _ _⟩

def wrB (x : Wr) : Bool := decide (x.sh.size ≤ 2052) && !(x.dead && !x.sh.toList.isEmpty)
def writesB (l : List Wr) : Bool := l.all wrB && (decide (l.length ≤ 16) && risingB (l.map (·.key)))

set_option maxHeartbeats 2000000 in
theorem writes_any (ok : Nat → Prop) (A : Option Addr) (c : Nat) (l : List Wr) (w : World) (hz : RdSl 3 encWr w ok A l) (hbig : l.length * 40 ≤ 140737488351232) :
    Calls Try.prog 128 #[.slice A l.length c] w fun e w' => e = .returned (.bool (writesB l)) ∧ Below w.heap.size w w' := by
  obtain ⟨i0, hi, hi0, hi1, hi2⟩ := info_parts info_str
  have HZ := Lib.hid hz
  clear hz
  go_enter Try.func128, Try.ntmps128
  go_wp2
  go_loopg [3, 8] l.length (fun gg s3 s8 wr => ∃ kk : Nat, kk ≤ l.length ∧ l.length - kk ≤ gg ∧ s8 = .int .i64 kk ∧ Aside (Below w.heap.size w wr) ∧ Aside ((l.take kk).all wrB = true) ∧
      Aside (wr.ownsRow w.heap.size 9 1 s3 ((l.take kk).map (·.key)).length (((l.take kk).map (·.key)).flatMap encS)))
  case atStart => exact ⟨0, Nat.zero_le _, by omega, rfl, Below.refl _ w, (show Aside _ from rfl), World.ownsRow_nil _ _ _ _⟩
  case round =>
    obtain ⟨kk, hkk, hg, rfl, BW, F, HO⟩ := hrel
    by_cases hlt : kk < l.length
    · have hltz : (kk : Int) < (l.length : Int) := by omega
      obtain ⟨x, hx⟩ : ∃ x, l[kk]? = some x := ⟨_, List.getElem?_eq_getElem hlt⟩
      have htake : l.take (kk + 1) = l.take kk ++ [x] := by rw [List.take_add_one, hx]; rfl
      obtain ⟨b, off, e, _, hb, hc⟩ := HZ.out (by intro h; simp [h] at hlt)
      subst e
      have l0 := (BW.out.cell (p := ⟨b, off + kk * 3 + 0, none⟩) hb).trans (hc kk x hx 0 _ rfl)
      have l1 := (BW.out.cell (p := ⟨b, off + kk * 3 + 1, none⟩) hb).trans (hc kk x hx 1 _ rfl)
      have l2 := (BW.out.cell (p := ⟨b, off + kk * 3 + 2, none⟩) hb).trans (hc kk x hx 2 _ rfl)
      rw [Nat.add_zero] at l0
      cases hgood : wrB x with
      | false =>
        have hF : Hid (writesB l = false) := by
          have h2 : l.all wrB = false := by rw [List.all_eq_false]; exact ⟨x, List.mem_of_getElem? hx, by simp [hgood]⟩
          show writesB l = false
          unfold writesB; rw [h2]; rfl
        by_cases hbig2 : x.sh.size ≤ 2052
        · have d1 : decide (2052 < (x.sh.size : Int)) = false := decide_eq_false (by omega)
          have hde : x.dead = true ∧ x.sh.toList.isEmpty = false := by
            unfold wrB at hgood
            rw [decide_eq_true hbig2] at hgood
            revert hgood
            cases x.dead <;> cases x.sh.toList.isEmpty <;> simp
          rw [hde.1] at l2
          have d2 : (!x.sh.toList.isEmpty) = true := by rw [hde.2]; rfl
          clear hde hgood
          clear hc hx htake
          go_wp2
          go_ret
          exact ⟨by rw [hF.out]; rfl, BW.out.alloc BW.out.size _⟩
        · have d1 : decide (2052 < (x.sh.size : Int)) = true := decide_eq_true (by omega)
          clear hgood
          clear hc hx htake
          go_wp2
          go_ret
          exact ⟨by rw [hF.out]; rfl, BW.out.alloc BW.out.size _⟩
      | true =>
        have hbig2 : x.sh.size ≤ 2052 := by
          by_cases h : x.sh.size ≤ 2052
          · exact h
          · unfold wrB at hgood
            rw [decide_eq_false h] at hgood
            simp at hgood
        have hde : x.dead = true → (!x.sh.toList.isEmpty) = false := by
          intro h
          unfold wrB at hgood
          rw [h] at hgood
          revert hgood
          cases x.sh.toList.isEmpty <;> simp
        have d1 : decide (2052 < (x.sh.size : Int)) = false := decide_eq_false (by omega)
        have hl := List.length_take_le kk l
        cases hd : x.dead with
        | true =>
          rw [hd] at l2
          have d2 := hde hd
          clear hde hd
          have F2 := Lib.hid (show (l.take (kk + 1)).all wrB = true by rw [htake, List.all_append, F.out, List.all_cons, hgood]; rfl)
          have T2 := Lib.hid htake
          have HX := Lib.hid hx
          clear hc hx htake F hgood
          go_wp2_with (at_builtin; refine wpList_append_own _ rfl _ _ 32 rfl w.heap.size 9 i0 (.string ⟨#[]⟩) 1 16 Try.underlying32 hi hi0 hi1 hi2 rfl (by decide) _ _ _ rfl ((HO.out.alloc _).alloc _) ⟨wr.heap.size + 1, 0, none⟩ 1 1 [.string x.key] rfl rfl ?a11 ?a12 ?a13 ?a14 ?a15 ?_)
          case a12 => rfl
          case a13 => first | omega | (simp; omega) | (unfold maxLen; simp; omega)
          case a14 => first | omega | (simp; omega)
          case a15 => have := BW.out.size; simp; omega
          intro v' w3 hown' hgrow _
          have hb3 := ((BW.out.alloc BW.out.size _).alloc (by have := BW.out.size; simp; omega) _).grown hgrow (by have := BW.out.size; simp; omega) (fun k hk => (own_block_lt HO.out hk).1)
          have hown2 : w3.ownsRow w.heap.size 9 1 v' ((l.take (kk + 1)).map (·.key)).length (((l.take (kk + 1)).map (·.key)).flatMap encS) := by
            rw [T2.out]
            simpa [encS, Nat.min_eq_left hkk] using hown'
          clear hgrow hown'
          go_wp2
          go_roundg (l.length - (kk + 1))
          case measure => omega
          case rel => exact ⟨kk + 1, by omega, by omega, by go_num, hb3, F2.out, hown2⟩

        | false =>
          rw [hd] at l2
          clear hde hd
          have F2 := Lib.hid (show (l.take (kk + 1)).all wrB = true by rw [htake, List.all_append, F.out, List.all_cons, hgood]; rfl)
          have T2 := Lib.hid htake
          have HX := Lib.hid hx
          clear hc hx htake F hgood
          go_wp2_with (at_builtin; refine wpList_append_own _ rfl _ _ 32 rfl w.heap.size 9 i0 (.string ⟨#[]⟩) 1 16 Try.underlying32 hi hi0 hi1 hi2 rfl (by decide) _ _ _ rfl ((HO.out.alloc _).alloc _) ⟨wr.heap.size + 1, 0, none⟩ 1 1 [.string x.key] rfl rfl ?a21 ?a22 ?a23 ?a24 ?a25 ?_)
          case a22 => rfl
          case a23 => first | omega | (simp; omega) | (unfold maxLen; simp; omega)
          case a24 => first | omega | (simp; omega)
          case a25 => have := BW.out.size; simp; omega
          intro v' w3 hown' hgrow _
          have hb3 := ((BW.out.alloc BW.out.size _).alloc (by have := BW.out.size; simp; omega) _).grown hgrow (by have := BW.out.size; simp; omega) (fun k hk => (own_block_lt HO.out hk).1)
          have hown2 : w3.ownsRow w.heap.size 9 1 v' ((l.take (kk + 1)).map (·.key)).length (((l.take (kk + 1)).map (·.key)).flatMap encS) := by
            rw [T2.out]
            simpa [encS, Nat.min_eq_left hkk] using hown'
          clear hgrow hown'
          go_wp2
          go_roundg (l.length - (kk + 1))
          case measure => omega
          case rel => exact ⟨kk + 1, by omega, by omega, by go_num, hb3, F2.out, hown2⟩

    · have hltz : ¬ (kk : Int) < (l.length : Int) := by omega
      have : kk = l.length := by omega
      subst this
      rw [List.take_length] at F HO
      obtain ⟨A', c', e, hcc, hrd⟩ := own_rd HO.out len_encS
      subst e
      rw [List.length_map] at hcc hrd
      have hR := fun (W : World) (hW : Below wr.heap.size wr W) => rising_any _ A' c' (l.map (·.key)) W (hrd.below hW) (by simp; omega)
      rw [List.length_map] at hR
      by_cases h16 : l.length ≤ 16
      · have d1 : decide ((l.length : Int) ≤ 16) = true := decide_eq_true (by omega)
        have hF : Hid (writesB l = risingB (l.map (·.key))) := by
          show writesB l = _
          unfold writesB
          rw [F.out, decide_eq_true h16]
          rfl
        have hlm : ((l.map (·.key)).length : Nat) = l.length := List.length_map _
        clear HO
        go_wp2_with (go_at_call 127; refine (hR _ (Below.refl _ _)).mono ?_; rintro e w4 ⟨rfl, hb4⟩)
        go_ret
        exact ⟨by rw [hF.out]; rfl, BW.out.trans (hb4.mono BW.out.size)⟩
      · have d1 : decide ((l.length : Int) ≤ 16) = false := decide_eq_false (by omega)
        have hF : Hid (writesB l = false) := by
          show writesB l = _
          unfold writesB
          rw [decide_eq_false h16]
          simp
        clear HO
        go_wp2
        go_ret
        exact ⟨by rw [hF.out]; rfl, BW.out⟩

end Go.Proofs.Ytokfbikiicfafaa
