/- shelf.room: is there room for these writes? -/
import Derived.Test.YtokfbikiicfafaaSs
namespace Go.Proofs.Ytokfbikiicfafaa
open Go.RowKit Go.Maps
set_option linter.unusedVariables false

def oldB (S : ShS) (l : List Wr) (ts : Int) : Bool := l.any (fun x => decide (ts ≤ lastTs (chain S.K x.key)))
def isKey (K : DataW (List Ver)) (key : ByteArray) : Bool := Maps.has K (.string key.data.toList)
def grown (K : DataW (List Ver)) (key : ByteArray) (n : Nat) : Nat := if isKey K key = true then n else n + 1
def fullB (K : DataW (List Ver)) (key : ByteArray) (n : Nat) : Bool := decide (1024 ≤ (chain K key).length) || decide (1024 < grown K key n)
def roomGo (K : DataW (List Ver)) : List Wr → Nat → Int
  | [], _ => 0
  | x :: l, n => if fullB K x.key n = true then 2 else roomGo K l (grown K x.key n)
def roomCode (S : ShS) (l : List Wr) (ts : Int) : Int := if oldB S l ts = true then 110 else roomGo S.K l (Maps.size S.K)

set_option maxHeartbeats 1000000 in
theorem room1_any {base : Nat} {ok : Nat → Prop} {p bk bq : Nat} {ev : Value} {S : ShS} (x : Wr) (ts : Int) (B1 B2 : Nat) (w : World) (h : ShAt w base ok p bk bq ev S) (hk : x.key.size ≤ maxLen) (hc : ChainOk (chain S.K x.key)) (hB1 : w.cell? ⟨B1, 0, none⟩ = some (.int .i64 ts)) (hB2 : w.cell? ⟨B2, 0, none⟩ = some (.pointer (some ⟨p, 0, none⟩))) :
    Calls Try.prog 83 #[.agg #[.string x.key, .string x.sh, .bool x.dead], .pointer (some ⟨B1, 0, none⟩), .pointer (some ⟨B2, 0, none⟩)] w fun e w' => e = .returned (.bool (decide (ts ≤ lastTs (chain S.K x.key)))) ∧ Below w.heap.size w w' := by
  have hB1l : B1 < w.heap.size := World.block_lt_of_cell? w _ hB1
  have hB2l : B2 < w.heap.size := World.block_lt_of_cell? w _ hB2
  have hL := fun (W : World) (hW : Below w.heap.size w W) => last_any x.key W (h.below hW) hk hc
  have HB := (Below.refl w.heap.size w).alloc (Nat.le_refl _) (.cells #[.string x.key, .string x.sh, .bool x.dead] 56 (0, 0))
  have a1 : (w.alloc (.cells #[.string x.key, .string x.sh, .bool x.dead] 56 (0, 0))).cell? ⟨w.heap.size, 0, none⟩ = some (.string x.key) := cell_blk (alloc_blk rfl) rfl
  have a2 := cell_later HB hB1
  have a3 := cell_later HB hB2
  clear h
  go_enter Try.func83, Try.ntmps83
  go_wp2
  generalize w.alloc (.cells #[.string x.key, .string x.sh, .bool x.dead] 56 (0, 0)) = W0 at HB a1 a2 a3 ⊢
  have HB' := Lib.hid HB
  clear HB
  go_region_held3 (fun W => W.cell? ⟨w.heap.size, 0, none⟩ = some (.string x.key) ∧ W.cell? ⟨B1, 0, none⟩ = some (.int .i64 ts) ∧ W.cell? ⟨B2, 0, none⟩ = some (.pointer (some ⟨p, 0, none⟩))) (go_keep)
    (first
      | (go_at_call 43; refine (hL _ ?_).mono ?_; (exact HB'.out.drew); rintro e w1 ⟨rfl, hb1⟩; have hw1 := Lib.hid (below_thru HB'.out.drew hb1); have b1 := cell_later hb1 (show W0.drew.cell? _ = _ from a1); have b2 := cell_later hb1 (show W0.drew.cell? _ = _ from a2); have b3 := cell_later hb1 (show W0.drew.cell? _ = _ from a3)))
  all_goals
    go_wp2
    go_ret
    exact ⟨rfl, hw1.out⟩
theorem roomGo_cons {K : DataW (List Ver)} {x : Wr} {l : List Wr} {n : Nat} : roomGo K (x :: l) n = if fullB K x.key n = true then 2 else roomGo K l (grown K x.key n) := rfl

set_option maxHeartbeats 4000000 in
set_option maxRecDepth 100000 in
theorem room_any {base : Nat} {ok okA : Nat → Prop} {p bk bq : Nat} {ev : Value} {S : ShS} (A : Option Addr) (c : Nat) (l : List Wr) (ts : Int) (w : World) (h : ShAt w base ok p bk bq ev S) (hz : RdSl 3 encWr w okA A l) (hbig : l.length ≤ 1024) (hsz : Maps.size S.K ≤ 1024)
    (hks : ∀ x ∈ l, x.key.size ≤ maxLen) (hch : ∀ key, ChainOk (chain S.K key)) :
    Calls Try.prog 39 #[.pointer (some ⟨p, 0, none⟩), .slice A l.length c, .int .i64 ts] w fun e w' => e = .returned (.int .i64 (roomCode S l ts)) ∧ Below w.heap.size w w' := by
  have hB : Below w.heap.size w ((w.alloc (.cells #[.pointer (some ⟨p, 0, none⟩)] 25 (0, 0))).alloc (.cells #[.int .i64 ts] 3 (0, 0))) := by repeat (with_reducible first | exact Below.refl _ _ | refine Below.setCell ?_ (by simp) _ | refine Below.drew ?_ | refine below_drewN ?_ _ | refine Below.alloc ?_ (by simp) _)
  have x1 : ((w.alloc (.cells #[.pointer (some ⟨p, 0, none⟩)] 25 (0, 0))).alloc (.cells #[.int .i64 ts] 3 (0, 0))).heap[w.heap.size]? = some (.cells #[.pointer (some ⟨p, 0, none⟩)] 25 (0, 0)) := alloc_old (alloc_blk rfl)
  have x2 : ((w.alloc (.cells #[.pointer (some ⟨p, 0, none⟩)] 25 (0, 0))).alloc (.cells #[.int .i64 ts] 3 (0, 0))).heap[w.heap.size + 1]? = some (.cells #[.int .i64 ts] 3 (0, 0)) := alloc_blk (by simp)
  have hC := containsFunc_wr (fun x => decide (ts ≤ lastTs (chain S.K x.key))) 83 #[.pointer (some ⟨w.heap.size + 1, 0, none⟩), .pointer (some ⟨w.heap.size, 0, none⟩)] (enters_of Try.func83 (by kernel_rfl) rfl) okA A c l ((w.alloc (.cells #[.pointer (some ⟨p, 0, none⟩)] 25 (0, 0))).alloc (.cells #[.int .i64 ts] 3 (0, 0)))
        (fun W2 x hx hB2 => (room1_any x ts _ _ W2 (h.below (below_thru hB hB2)) (hks x hx) (hch x.key) (cell_later hB2 (cell_blk x2 rfl)) (cell_later hB2 (cell_blk x1 rfl))).mono fun _ _ ⟨a, b⟩ => ⟨a, below_thru hB2 b⟩) (hz.below hB) (by omega)
  cases h1 : oldB S l ts with
  | true =>
    have HS := Lib.hid (show roomCode S l ts = 110 by unfold roomCode; rw [if_pos h1])
    unfold oldB at h1
    rw [h1] at hC
    clear h hz h1 hks hch
    go_enter Try.func39, Try.ntmps39
    go_wp2_with (go_at_call 78; refine hC.mono ?_; rintro e w1 ⟨rfl, hb1⟩; have hw1 := Lib.hid (below_thru hB hb1))
    go_ret
    exact ⟨by rw [HS.out]; rfl, hw1.out⟩
  | false =>
    have HS := Lib.hid (show roomCode S l ts = roomGo S.K l (Maps.size S.K) by unfold roomCode; rw [if_neg (by rw [h1]; simp)])
    unfold oldB at h1
    rw [h1] at hC
    have hK := fun (W : World) (hW : Below w.heap.size w W) => (h.below hW).keys
    have c0 := cell_blk (i := 0) (u := .map (some bk)) h.blk rfl
    have H := Lib.hid h
    have HZ := Lib.hid hz
    have HKS := Lib.hid hks
    have HCH := Lib.hid hch
    clear h hz h1 hks hch
    go_enter Try.func39, Try.ntmps39
    go_wp2_with (first
      | (go_at_call 78; refine hC.mono ?_; rintro e w1 ⟨rfl, hb1⟩; have hw1 := Lib.hid (below_thru hB hb1); have y1 := cellsLater hb1 x1; have k1 := cell_blk (i := 0) y1 rfl; have k0 := cell_later hw1.out c0; have hK1 := hK _ hw1.out)
      | (at_len; refine wpList_len_own _ rfl _ 74 rfl 9 81 Try.underlying74 _ bk _ _ rfl hK1 ?_))
    go_loopg [7, 9, 22] l.length (fun gg s7 _ s22 wr => ∃ kk n : Nat, kk ≤ l.length ∧ l.length - kk ≤ gg ∧ n ≤ 1024 + kk ∧ s7 = .int .i64 n ∧ s22 = .int .i64 kk ∧ Aside (Below w.heap.size w wr) ∧ Aside (wr.heap[w.heap.size]? = some (.cells #[.pointer (some ⟨p, 0, none⟩)] 25 (0, 0))) ∧ Aside (roomGo S.K l (Maps.size S.K) = roomGo S.K (l.drop kk) n))
    case atStart => exact ⟨0, Maps.size S.K, Nat.zero_le _, by omega, by omega, rfl, rfl, hw1.out, y1, (show Aside _ from rfl)⟩
    case round =>
      obtain ⟨kk, n, hkk, hg, hn, rfl, rfl, BW, BX, F⟩ := hrel
      by_cases hlt : kk < l.length
      · have hltz : (kk : Int) < (l.length : Int) := by omega
        obtain ⟨x, hx⟩ : ∃ x, l[kk]? = some x := ⟨_, List.getElem?_eq_getElem hlt⟩
        have hdrop : l.drop kk = x :: l.drop (kk + 1) := by
          rw [List.drop_eq_getElem_cons hlt]
          rw [List.getElem?_eq_getElem hlt] at hx
          cases hx
          rfl
        obtain ⟨b, off, e, _, hb, hc⟩ := HZ.out (by intro h; simp [h] at hlt)
        subst e
        have l0 := (BW.out.cell (p := ⟨b, off + kk * 3 + 0, none⟩) hb).trans (hc kk x hx 0 _ rfl)
        have l1 := (BW.out.cell (p := ⟨b, off + kk * 3 + 1, none⟩) hb).trans (hc kk x hx 1 _ rfl)
        have l2 := (BW.out.cell (p := ⟨b, off + kk * 3 + 2, none⟩) hb).trans (hc kk x hx 2 _ rfl)
        rw [Nat.add_zero] at l0
        have hgr : w.heap.size ≤ wr.heap.size := BW.out.size
        have hSh := H.out.below BW.out
        have hkx := HKS.out x (List.mem_of_getElem? hx)
        have hltk := hSh.keys.lt
        obtain ⟨v1, lc, ⟨Ac, cc, ev1, _, _, _⟩, hat, hlook⟩ := look_key hSh x.key hkx true
        obtain ⟨v2, lc2, ⟨Ac2, cc2, ev2, _, _, _⟩, hat2, hlook2⟩ := look_key hSh x.key hkx false
        subst ev1
        subst ev2
        have elc : lc2 = lc := by
          have := hat2.symm.trans hat
          cases this
          rfl
        subst elc
        have ech : chain S.K x.key = lc2 := by unfold chain; rw [hat]
        simp only [if_true, Bool.false_eq_true, if_false] at hlook hlook2
        have el1 := hlook ((wr.alloc (.cells #[.string x.key, .string x.sh, .bool x.dead] 56 (0, 0))).drew) ((MapKept.heap_alloc wr _).2 bk hltk)
        have el2 := hlook2 ((wr.alloc (.cells #[.string x.key, .string x.sh, .bool x.dead] 56 (0, 0))).drew.drew) ((MapKept.heap_alloc wr _).2 bk hltk)
        have f0 : (wr.alloc (.cells #[.string x.key, .string x.sh, .bool x.dead] 56 (0, 0))).cell? ⟨w.heap.size, 0, none⟩ = some (.pointer (some ⟨p, 0, none⟩)) := cell_blk (alloc_old BX.out) rfl
        have f1 : (wr.alloc (.cells #[.string x.key, .string x.sh, .bool x.dead] 56 (0, 0))).cell? ⟨p, 0, none⟩ = some (.map (some bk)) := cell_blk (alloc_old hSh.blk) rfl
        have f2 : (wr.alloc (.cells #[.string x.key, .string x.sh, .bool x.dead] 56 (0, 0))).cell? ⟨wr.heap.size, 0, none⟩ = some (.string x.key) := cell_blk (alloc_blk rfl) rfl
        have hlen := (HCH.out x.key).len
        rw [ech] at hlen
        have HF0 := F.out
        rw [hdrop, roomGo_cons] at HF0
        have BXn : Hid ((wr.alloc (.cells #[.string x.key, .string x.sh, .bool x.dead] 56 (0, 0))).heap[w.heap.size]? = some (.cells #[.pointer (some ⟨p, 0, none⟩)] 25 (0, 0))) := alloc_old BX.out
        clear hlook hlook2 hat hat2 hc hx hSh F hdrop hK
        cases hik : isKey S.K x.key with
        | true =>
          have eg : grown S.K x.key n = n := by unfold grown; rw [if_pos hik]
          have hik' : Maps.has S.K (.string x.key.data.toList) = true := hik
          rw [hik'] at el1
          rw [eg] at HF0
          by_cases hf : 1024 ≤ lc2.length
          · have d1 : decide ((1024 : Int) ≤ (lc2.length : Int)) = true := decide_eq_true (by omega)
            have HF : Hid (roomGo S.K l (Maps.size S.K) = 2) := by
              rw [HF0]
              unfold fullB
              rw [ech, decide_eq_true hf]
              rfl
            clear HF0 eg hik hik' ech
            go_wp2
            go_region
            all_goals
              go_wp2
              (first | go_big_region | fail "no")
            all_goals
              go_wp2
              go_ret
              refine ⟨by rw [HS.out, HF.out]; rfl, ?_⟩
              repeat (with_reducible first | exact BW.out | refine Below.setCell ?_ (by first | exact hgr | (simp; try omega)) _ | refine Below.drew ?_ | refine below_drewN ?_ _ | refine Below.alloc ?_ (by first | exact hgr | (simp; try omega)) _)
          · have d1 : decide ((1024 : Int) ≤ (lc2.length : Int)) = false := decide_eq_false (by omega)
            by_cases hn2 : 1024 < n
            · have d2 : decide ((1024 : Int) < (n : Int)) = true := decide_eq_true (by omega)
              have HF : Hid (roomGo S.K l (Maps.size S.K) = 2) := by
                rw [HF0]
                unfold fullB
                rw [eg, ech, decide_eq_false hf, decide_eq_true hn2]
                rfl
              clear HF0 eg hik hik' ech
              go_wp2
              go_region
              all_goals
                go_wp2
                (first | go_big_region | fail "no")
              all_goals
                go_wp2
                go_ret
                refine ⟨by rw [HS.out, HF.out]; rfl, ?_⟩
                repeat (with_reducible first | exact BW.out | refine Below.setCell ?_ (by first | exact hgr | (simp; try omega)) _ | refine Below.drew ?_ | refine below_drewN ?_ _ | refine Below.alloc ?_ (by first | exact hgr | (simp; try omega)) _)
            · have d2 : decide ((1024 : Int) < (n : Int)) = false := decide_eq_false (by omega)
              have HF : Hid (roomGo S.K l (Maps.size S.K) = roomGo S.K (l.drop (kk + 1)) (n)) := by
                have ef : fullB S.K x.key n = false := by
                  unfold fullB
                  rw [eg, ech, decide_eq_false hf, decide_eq_false hn2]
                  rfl
                rw [HF0, if_neg (by rw [ef]; simp)]
                rfl
              clear HF0 eg hik hik' ech
              go_wp2
              go_region
              all_goals
                go_wp2
                (first | go_big_region | fail "no")
              all_goals
                go_wp2
                go_roundg (l.length - (kk + 1))
                case measure => omega
                case rel =>
                  refine ⟨kk + 1, n, by omega, by omega, by omega, by go_num, by go_num, (show Aside _ from ?_), BXn.out, HF.out⟩
                  refine (?_ : Below w.heap.size w _)
                  repeat (with_reducible first | exact BW.out | refine Below.setCell ?_ (by first | exact hgr | (simp; try omega)) _ | refine Below.drew ?_ | refine below_drewN ?_ _ | refine Below.alloc ?_ (by first | exact hgr | (simp; try omega)) _)
        | false =>
          have eg : grown S.K x.key n = n + 1 := by unfold grown; rw [if_neg (by rw [hik]; simp)]
          have hik' : Maps.has S.K (.string x.key.data.toList) = false := hik
          rw [hik'] at el1
          rw [eg] at HF0
          by_cases hf : 1024 ≤ lc2.length
          · have d1 : decide ((1024 : Int) ≤ (lc2.length : Int)) = true := decide_eq_true (by omega)
            have HF : Hid (roomGo S.K l (Maps.size S.K) = 2) := by
              rw [HF0]
              unfold fullB
              rw [ech, decide_eq_true hf]
              rfl
            clear HF0 eg hik hik' ech
            go_wp2
            go_region
            all_goals
              go_wp2
              (first | go_big_region | fail "no")
            all_goals
              go_wp2
              go_ret
              refine ⟨by rw [HS.out, HF.out]; rfl, ?_⟩
              repeat (with_reducible first | exact BW.out | refine Below.setCell ?_ (by first | exact hgr | (simp; try omega)) _ | refine Below.drew ?_ | refine below_drewN ?_ _ | refine Below.alloc ?_ (by first | exact hgr | (simp; try omega)) _)
          · have d1 : decide ((1024 : Int) ≤ (lc2.length : Int)) = false := decide_eq_false (by omega)
            by_cases hn2 : 1024 < n + 1
            · have d2 : decide ((1024 : Int) < ((n : Int) + 1)) = true := decide_eq_true (by omega)
              have HF : Hid (roomGo S.K l (Maps.size S.K) = 2) := by
                rw [HF0]
                unfold fullB
                rw [eg, ech, decide_eq_false hf, decide_eq_true hn2]
                rfl
              clear HF0 eg hik hik' ech
              go_wp2
              go_region
              all_goals
                go_wp2
                (first | go_big_region | fail "no")
              all_goals
                go_wp2
                go_ret
                refine ⟨by rw [HS.out, HF.out]; rfl, ?_⟩
                repeat (with_reducible first | exact BW.out | refine Below.setCell ?_ (by first | exact hgr | (simp; try omega)) _ | refine Below.drew ?_ | refine below_drewN ?_ _ | refine Below.alloc ?_ (by first | exact hgr | (simp; try omega)) _)
            · have d2 : decide ((1024 : Int) < ((n : Int) + 1)) = false := decide_eq_false (by omega)
              have HF : Hid (roomGo S.K l (Maps.size S.K) = roomGo S.K (l.drop (kk + 1)) (n + 1)) := by
                have ef : fullB S.K x.key n = false := by
                  unfold fullB
                  rw [eg, ech, decide_eq_false hf, decide_eq_false hn2]
                  rfl
                rw [HF0, if_neg (by rw [ef]; simp)]
                rfl
              clear HF0 eg hik hik' ech
              go_wp2
              go_region
              all_goals
                go_wp2
                (first | go_big_region | fail "no")
              all_goals
                go_wp2
                go_roundg (l.length - (kk + 1))
                case measure => omega
                case rel =>
                  refine ⟨kk + 1, n + 1, by omega, by omega, by omega, by go_num, by go_num, (show Aside _ from ?_), BXn.out, HF.out⟩
                  refine (?_ : Below w.heap.size w _)
                  repeat (with_reducible first | exact BW.out | refine Below.setCell ?_ (by first | exact hgr | (simp; try omega)) _ | refine Below.drew ?_ | refine below_drewN ?_ _ | refine Below.alloc ?_ (by first | exact hgr | (simp; try omega)) _)
      · have hltz : ¬ (kk : Int) < (l.length : Int) := by omega
        have : kk = l.length := by omega
        subst this
        have HF : Hid (roomGo S.K l (Maps.size S.K) = 0) := by
          have := F.out
          rw [List.drop_length] at this
          exact this
        go_wp2
        go_ret
        exact ⟨by rw [HS.out, HF.out]; rfl, BW.out⟩
end Go.Proofs.Ytokfbikiicfafaa
