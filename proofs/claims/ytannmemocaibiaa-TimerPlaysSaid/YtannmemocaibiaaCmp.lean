/-
  The walks of cmp.Compare, cmp.Or and timer.compare.
-/
import Derived.Test.YtannmemocaibiaaRows
import Derived.Test.YtannmemocaibiaaMem
import Derived.WalkKit
import Derived.WalkSpells
import Derived.WalkLawsBesides
import Derived.StillTailTactics
import Derived.Deep.QuietTactic
import Derived.BigQuiet
import Derived.Lib.Hide
namespace Go.Proofs.Ytannmemocaibiaa
open Go.RowKit

theorem region_tail {P : Program} {id : Nat} {Q : Exit → Act → World → Prop} {a : Act} {w : World} {l : List Oper} (n : Nat) (hm : P.follows .mixedOrders = true) (hB : Region.lexTailB .any l.toArray n = true)
    (h : wpStill P l.toArray w.drew (fun a' => wpList P l.toArray Q (l.drop n) a' w.drew) (l.take n) a) : (Code.region id l.toArray true).wp P Q a w := wp_region_still_tail n hm hB h

def cmpI (a b : Int) : Int := if a < b then -1 else if b < a then 1 else 0
def cmpS (a b : ByteArray) : Int := if Op.bytesLess a.toList b.toList then -1 else if a.toList == b.toList then 0 else 1
theorem ret_int {k : IntKind} {a b : Int} (h : a = b) : Ending.returned (.int k a) = .returned (.int k b) := by rw [h]

set_option maxHeartbeats 400000 in
theorem cmpInt_any (a b : Int) (w : World) :
    Calls Try.prog 38 #[.int .i64 a, .int .i64 b] w fun e w' => e = .returned (.int .i64 (cmpI a b)) ∧ w' = w := by
  go_enter Try.func38, Try.ntmps38
  go_wp2
  all_goals
    go_ret
    refine ⟨ret_int ?_, rfl⟩
    unfold cmpI
    first | rw [if_pos (by assumption)] | (rw [if_neg (by omega), if_pos (by omega)]) | (rw [if_neg (by omega), if_neg (by omega)])

theorem cmpS_lt {a b : ByteArray} (h : Op.bytesLess a.toList b.toList = true) : cmpS a b = -1 := by unfold cmpS; rw [if_pos h]
theorem cmpS_gt {a b : ByteArray} (h : Op.bytesLess a.toList b.toList = false) (h2 : (!a.toList == b.toList) = true) : cmpS a b = 1 := by
  unfold cmpS; rw [if_neg (by simp [h]), if_neg (by simpa using h2)]
theorem cmpS_eq {a b : ByteArray} (h : Op.bytesLess a.toList b.toList = false) (h2 : (!a.toList == b.toList) = false) : cmpS a b = 0 := by
  unfold cmpS; rw [if_neg (by simp [h]), if_pos (by simpa using h2)]

set_option maxHeartbeats 400000 in
theorem cmpStr_any (a b : ByteArray) (w : World) :
    Calls Try.prog 39 #[.string a, .string b] w fun e w' => e = .returned (.int .i64 (cmpS a b)) ∧ w' = w := by
  go_enter Try.func39, Try.ntmps39
  go_wp2
  all_goals
    go_ret
    refine ⟨ret_int ?_, rfl⟩
    first | rw [cmpS_lt (by assumption)] | rw [cmpS_gt (by assumption) (by assumption)] | rw [cmpS_eq (by assumption) (by assumption)]

def orI (x y : Int) : Int := if x = 0 then y else x

set_option maxHeartbeats 400000 in
theorem cmpOr_any (g : Nat) (x y : Int) (w : World) (hg : w.cell? ⟨g, 0, none⟩ = some (.int .i64 x)) (hg1 : w.cell? ⟨g, 1, none⟩ = some (.int .i64 y)) :
    Calls Try.prog 37 #[.slice (some ⟨g, 0, none⟩) 2 2] w fun e w' => e = .returned (.int .i64 (orI x y)) ∧ w' = w := by
  by_cases hx : x = 0
  · rw [show orI x y = y from if_pos hx]
    have hx1 : (x != 0) = false := by simp [hx]
    clear hx
    by_cases hy : y = 0
    · have hy1 : (y != 0) = false := by simp [hy]
      have Hy := Lib.hid hy
      clear hy
      go_enter Try.func37, Try.ntmps37
      go_wp2
      refine wp_loop_rounds 3 ?_
      rw [rounds_succ]
      go_wp2
      rw [rounds_succ]
      go_wp2
      rw [rounds_succ]
      go_wp2
      go_ret
      exact ⟨ret_int Hy.out.symm, rfl⟩
    · have hy1 : (y != 0) = true := by simp [hy]
      clear hy
      go_enter Try.func37, Try.ntmps37
      go_wp2
      refine wp_loop_rounds 3 ?_
      rw [rounds_succ]
      go_wp2
      rw [rounds_succ]
      go_wp2
      go_ret
      exact ⟨rfl, rfl⟩
  · rw [show orI x y = x from if_neg hx]
    have hx1 : (x != 0) = true := by simp [hx]
    clear hx
    go_enter Try.func37, Try.ntmps37
    go_wp2
    refine wp_loop_rounds 3 ?_
    rw [rounds_succ]
    go_wp2
    go_ret
    exact ⟨rfl, rfl⟩

/-- Which of two timers comes first. -/
def cmpD (a b : ByteArray × Int) : Int := orI (cmpI a.2 b.2) (cmpS a.1 b.1)

set_option maxRecDepth 100000 in
set_option maxHeartbeats 400000 in
theorem compare_any (s t : ByteArray) (x y : Int) (w : World) :
    Calls Try.prog 31 #[.agg #[.string s, .int .i64 x], .agg #[.string t, .int .i64 y]] w fun e w' => e = .returned (.int .i64 (cmpD (s, x) (t, y))) ∧ Below w.heap.size w w' := by
  go_enter Try.func31, Try.ntmps31
  go_wp2
  refine region_tail 10 (by kernel_rfl) (by kernel_rfl) ?_
  simp only [List.take_succ_cons, List.take_zero, List.drop_succ_cons, List.drop_zero]
  still_step
  still_step
  still_step
  still_step
  still_call (cmpInt_any _ _ _)
  still_step
  still_step
  still_step
  still_step
  still_call (cmpStr_any _ _ _)
  refine wpStill_nil ?_
  go_wp2_with fail
  generalize hW : (w.alloc (Obj.cells #[Value.string s, Value.int IntKind.i64 x] 40)).alloc (Obj.cells #[Value.string t, Value.int IntKind.i64 y] 40) = W
  have hz : w.heap.size + 1 + 1 = W.heap.size := by rw [← hW]; simp
  have hB : Below w.heap.size w W := by rw [← hW]; exact ((Below.refl _ _).alloc (Nat.le_refl _) _).alloc (by simp) _
  rw [hz]
  refine (cmpOr_any _ _ _ _ ((Blk.new W 3 _).drew.cell 0) ((Blk.new W 3 _).drew.cell 1)).mono ?_
  have Hz := Lib.hid hz
  have HW := Lib.hid hW
  clear hz hW
  rintro e w' ⟨rfl, rfl⟩
  go_wp2
  go_ret
  exact ⟨rfl, (hB.alloc hB.size _).drew⟩
end Go.Proofs.Ytannmemocaibiaa
