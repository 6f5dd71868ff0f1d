/-
  slices.SortFunc with timer.compare: the row sorted.
-/
import Derived.Test.YtannmemocaibiaaSame
import Derived.Sort.Grow
namespace Go.Proofs.Ytannmemocaibiaa
open Go.RowKit

set_option maxRecDepth 100000 in
set_option maxHeartbeats 400000 in
theorem compare_grow (s t : ByteArray) (x y : Int) (w : World) :
    Calls Try.prog 31 #[.agg #[.string s, .int .i64 x], .agg #[.string t, .int .i64 y]] w fun e w' => e = .returned (.int .i64 (cmpD (s, x) (t, y))) ∧ ∃ (q : Nat) (os : Array Obj), w' = Sort.grow (w.drewN q) os := by
  go_enter Try.func31, Try.ntmps31
  go_wp2
  refine region_tail 10 (by kernel_rfl) (by kernel_rfl) ?_
  simp only [List.take_succ_cons, List.take_zero, List.drop_succ_cons, List.drop_zero]
  still_step
  still_step
  still_step
  still_step
  still_call (cmpInt_any _ _ _)
  still_step
  still_step
  still_step
  still_step
  still_call (cmpStr_any _ _ _)
  refine wpStill_nil ?_
  go_wp2_with fail
  generalize hW : (w.alloc (Obj.cells #[Value.string s, Value.int IntKind.i64 x] 40)).alloc (Obj.cells #[Value.string t, Value.int IntKind.i64 y] 40) = W
  have hz : w.heap.size + 1 + 1 = W.heap.size := by rw [← hW]; simp
  have hB : Below w.heap.size w W := by rw [← hW]; exact ((Below.refl _ _).alloc (Nat.le_refl _) _).alloc (by simp) _
  rw [hz]
  refine (cmpOr_any _ _ _ _ ((Blk.new W 3 _).drew.cell 0) ((Blk.new W 3 _).drew.cell 1)).mono ?_
  have Hz := Lib.hid hz
  have HW := Lib.hid hW
  clear hz hW
  rintro e w' ⟨rfl, rfl⟩
  go_wp2
  go_ret
  exact ⟨rfl, 1, _, by rw [← HW.out, Sort.alloc_eq_grow, Sort.alloc_eq_grow, Sort.alloc_eq_grow, Sort.grow_grow, Sort.grow_grow]; rfl⟩
end Go.Proofs.Ytannmemocaibiaa
