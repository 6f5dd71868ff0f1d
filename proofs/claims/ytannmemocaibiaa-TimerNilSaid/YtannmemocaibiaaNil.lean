/-
  The walks of the methods on a nil queue, and of TimerNil.
-/
import Derived.Test.YtannmemocaibiaaLive
namespace Go.Proofs.Ytannmemocaibiaa
open Go.RowKit

set_option maxRecDepth 100000
set_option maxHeartbeats 1000000
theorem at_nil (s : ByteArray) (w : World) : Calls Try.prog 15 #[.pointer none, .string s] w fun e w' => e = .returned (.tuple #[.int .i64 0, .bool false]) ∧ w = w' := by
  go_enter Try.func15, Try.ntmps15
  go_wp2
  go_ret2
  exact ⟨rfl, rfl⟩
theorem set_nil (s : ByteArray) (a : Int) (w : World) : Calls Try.prog 11 #[.pointer none, .string s, .int .i64 a] w fun e w' => e = .returned (.int .i64 7) ∧ w = w' := by
  go_enter Try.func11, Try.ntmps11
  go_wp2
  go_ret
  exact ⟨rfl, rfl⟩
theorem cancel_nil (v : Value) (w : World) : Calls Try.prog 14 #[.pointer none, v] w fun e w' => e = .returned (.int .i64 0) ∧ w = w' := by
  go_enter Try.func14, Try.ntmps14
  go_wp2
  go_ret
  exact ⟨rfl, rfl⟩
theorem list_nil (w : World) : Calls Try.prog 17 #[.pointer none] w fun e w' => e = .returned (.slice none 0 0) ∧ w = w' := by
  go_enter Try.func17, Try.ntmps17
  go_wp2
  go_ret
  exact ⟨rfl, rfl⟩
theorem copy_nil (w : World) : Calls Try.prog 20 #[.pointer none] w fun e w' => e = .returned (.pointer none) ∧ w = w' := by
  go_enter Try.func20, Try.ntmps20
  go_wp2
  go_ret
  exact ⟨rfl, rfl⟩

theorem timerNil_any (s : ByteArray) (a : Int) (w : World) : Calls Try.prog 8 #[.string s, .int .i64 a] w fun e w' => e = .returned (.bool true) ∧ Below w.heap.size w w' := by
  go_enter Try.func8, Try.ntmps8
  go_wp2_with fail
  refine (at_nil _ _).mono ?_
  rintro e w' ⟨rfl, rfl⟩
  go_wp2_with fail
  refine (next_nil _).mono ?_
  rintro e w1 ⟨rfl, hb⟩
  have HB := Lib.hid (hb.alloc hb.size (.cells #[.string ⟨#[]⟩, .int .i64 0] 40))
  have hs := hb.size
  clear hb
  go_wp2_with fail
  refine (pop_nil _ _).mono ?_
  rintro e w2 ⟨rfl, hb⟩
  dsimp only [due0]
  have hb2 := HB.out.trans (hb.mono HB.out.size)
  have HB2 := Lib.hid (hb2.alloc hb2.size (.cells #[.string ⟨#[]⟩, .int .i64 0] 40))
  clear hb hb2
  go_wp2_with fail
  refine (set_nil _ _ _).mono ?_
  rintro e w' ⟨rfl, rfl⟩
  go_wp2_with fail
  refine (num_any _ _).mono ?_
  rintro e w' ⟨rfl, rfl⟩
  go_wp2_with fail
  refine (cancel_nil _ _).mono ?_
  rintro e w' ⟨rfl, rfl⟩
  go_wp2_with fail
  refine (qlen_nil _).mono ?_
  rintro e w' ⟨rfl, rfl⟩
  go_wp2_with fail
  refine (list_nil _).mono ?_
  rintro e w' ⟨rfl, rfl⟩
  go_wp2_with fail
  refine (copy_nil _).mono ?_
  rintro e w' ⟨rfl, rfl⟩
  go_wp2_with fail
  refine (live_any _).mono ?_
  rintro e w3 ⟨rfl, hb⟩
  have h3 := HB2.out.alloc HB2.out.size (.cells #[.string s] 9)
  have HB3 := Lib.hid (h3.trans (hb.mono h3.size))
  clear hb h3
  go_wp2_with fail
  go_ret
  exact ⟨rfl, HB3.out⟩
theorem timerNil_walk (s : ByteArray) (a : Int) (w : World) (_ : s.size ≤ maxLen) (_ : (Lit.int .i64 a).wf = true) : Calls Try.prog 8 #[.string s, .int .i64 a] w fun e w' => e = .returned (.bool true) ∧ Below w.heap.size w w' := timerNil_any s a w
end Go.Proofs.Ytannmemocaibiaa
