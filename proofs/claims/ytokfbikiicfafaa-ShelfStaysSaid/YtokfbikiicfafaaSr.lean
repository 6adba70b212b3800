/- A record as plain data, and the test that record.Check makes of one. -/
import Derived.Test.YtokfbikiicfafaaSh
namespace Go.Proofs.Ytokfbikiicfafaa
open Go.RowKit Go.Maps
set_option linter.unusedVariables false

structure Rec where
  kind : Int
  txn : Int
  ts : Int
  coord : Int
  key : ByteArray
  text : ByteArray
  dead : Bool
  keys : List ByteArray
  writes : List Wr

theorem okOr_eq (b : Bool) (e : Int) (he : e ≠ 0) : (okOr b e == 0) = b := by cases b <;> simp [okOr, he]

/-- What is wrong with a record's numbers, one after the other. -/
def numsB (r : Rec) : Bool := !(decide (r.txn < 0) || decide (1125899906842623 < r.txn) || decide (r.ts < 0) || decide (1125899906842624 < r.ts) || decide (r.coord < 0) || decide (16 ≤ r.coord))

def noneB (r : Rec) : Bool := decide ((r.keys.length : Int) + r.writes.length = 0)
def flatB (r : Rec) : Bool := decide (r.key.toList = []) && decide (r.text.toList = []) && !r.dead
def recBody (r : Rec) : Bool :=
  if r.kind = 1 then (listedB r.keys r.writes && decide (0 < r.txn)) && flatB r
  else if r.kind = 2 then (noneB r && decide (0 < r.txn)) && (decide (0 = r.coord) && flatB r)
  else if r.kind = 5 then (noneB r && decide (0 < r.txn) && decide (0 < r.ts)) && (decide (0 = r.coord) && flatB r)
  else if r.kind = 6 then (noneB r && decide (0 < r.txn)) && (decide (0 = r.ts) && (decide (0 = r.coord) && flatB r))
  else if r.kind = 3 then (noneB r && decide (0 < r.ts) && keyB r.key && decide ((r.text.size : Int) ≤ 2052) && (!r.dead || decide (r.text.toList = []))) && (decide (0 = r.txn) && decide (0 = r.coord))
  else if r.kind = 4 then noneB r && (decide (0 = r.txn) && (decide (0 = r.coord) && flatB r))
  else if r.kind = 7 then (noneB r && decide (0 < r.ts)) && (decide (0 = r.txn) && (decide (0 = r.coord) && flatB r))
  else false
theorem recBody_1 {r : Rec} (h : r.kind = 1) : recBody r = ((listedB r.keys r.writes && decide (0 < r.txn)) && flatB r) := by unfold recBody; simp only [h]; rfl
theorem recBody_2 {r : Rec} (h : r.kind = 2) : recBody r = ((noneB r && decide (0 < r.txn)) && (decide (0 = r.coord) && flatB r)) := by unfold recBody; simp only [h]; rfl
theorem recBody_3 {r : Rec} (h : r.kind = 3) : recBody r = ((noneB r && decide (0 < r.ts) && keyB r.key && decide ((r.text.size : Int) ≤ 2052) && (!r.dead || decide (r.text.toList = []))) && (decide (0 = r.txn) && decide (0 = r.coord))) := by unfold recBody; simp only [h]; rfl
theorem recBody_4 {r : Rec} (h : r.kind = 4) : recBody r = (noneB r && (decide (0 = r.txn) && (decide (0 = r.coord) && flatB r))) := by unfold recBody; simp only [h]; rfl
theorem recBody_5 {r : Rec} (h : r.kind = 5) : recBody r = ((noneB r && decide (0 < r.txn) && decide (0 < r.ts)) && (decide (0 = r.coord) && flatB r)) := by unfold recBody; simp only [h]; rfl
theorem recBody_6 {r : Rec} (h : r.kind = 6) : recBody r = ((noneB r && decide (0 < r.txn)) && (decide (0 = r.ts) && (decide (0 = r.coord) && flatB r))) := by unfold recBody; simp only [h]; rfl
theorem recBody_7 {r : Rec} (h : r.kind = 7) : recBody r = ((noneB r && decide (0 < r.ts)) && (decide (0 = r.txn) && (decide (0 = r.coord) && flatB r))) := by unfold recBody; simp only [h]; rfl
theorem recBody_o {r : Rec} (h : r.kind ≠ 1 ∧ r.kind ≠ 2 ∧ r.kind ≠ 3 ∧ r.kind ≠ 4 ∧ r.kind ≠ 5 ∧ r.kind ≠ 6 ∧ r.kind ≠ 7) : recBody r = false := by unfold recBody; rw [if_neg h.1, if_neg h.2.1, if_neg h.2.2.2.2.1, if_neg h.2.2.2.2.2.1, if_neg h.2.2.1, if_neg h.2.2.2.1, if_neg h.2.2.2.2.2.2]
def recB (r : Rec) : Bool := numsB r && recBody r
end Go.Proofs.Ytokfbikiicfafaa
