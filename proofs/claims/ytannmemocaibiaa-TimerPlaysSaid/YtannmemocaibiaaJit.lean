/-
  The walks of the two Jitters.
-/
import Derived.Test.YtannmemocaibiaaCan
namespace Go.Proofs.Ytannmemocaibiaa
open Go.RowKit

/-- The part of an interval that is taken off, and what is left. -/
def jit (i d : Int) : Int := i - d % (i / 4 + 1)

theorem jit_back (i d : Int) (hi : 1 ≤ i) (hd : d < 0) (hi2 : i ≤ 9223372036854775807) : wrap64 (i + d.tmod (i / 4 + 1)) = jit i (-d) := by
  have h1 : (-d) % (i / 4 + 1) = -(d.tmod (i / 4 + 1)) := by
    rw [← Int.tmod_eq_emod_of_nonneg (by omega), Int.neg_tmod]
  have b1 : 0 ≤ (-d) % (i / 4 + 1) := Int.emod_nonneg _ (by omega)
  have b2 : (-d) % (i / 4 + 1) < i / 4 + 1 := Int.emod_lt_of_pos _ (by omega)
  unfold jit
  rw [h1] at b1 b2 ⊢
  generalize d.tmod (i / 4 + 1) = t at *
  rw [IntWalk.wrap64_in _ ⟨by omega, by omega⟩]
  omega

theorem wneg (d : Int) (hd : d ≤ -9223372036854775808) (hd2 : -9223372036854775808 ≤ d) : wrap64 (-d) < 0 := by
  have : d = -9223372036854775808 := by omega
  subst this
  unfold wrap64
  omega
theorem jit_zero (i : Int) : i = jit i 0 := by
  unfold jit
  simp
def jitV (i d : Int) : Int := if i < 1 then i else if d ≤ -9223372036854775808 then jit i 0 else if d < 0 then jit i (-d) else jit i d

set_option maxHeartbeats 1000000 in
theorem jit_small (i d : Int) (w : World) (hi : i < 1) : Calls Try.prog 18 #[.int .i64 i, .int .i64 d] w fun e w' => e = .returned (.int .i64 i) ∧ w = w' := by
  go_enter Try.func18, Try.ntmps18
  go_wp2
  go_ret
  exact ⟨rfl, rfl⟩

set_option maxHeartbeats 1000000 in
theorem jit_pos (i d : Int) (w : World) (hi : 1 ≤ i) (hd : 0 ≤ d) (hi2 : i ≤ 9223372036854775807) (hd2 : d ≤ 9223372036854775807) : Calls Try.prog 18 #[.int .i64 i, .int .i64 d] w fun e w' => e = .returned (.int .i64 (jit i d)) ∧ w = w' := by
  have b1 : 0 ≤ d % (i / 4 + 1) := Int.emod_nonneg _ (by omega)
  have b2 : d % (i / 4 + 1) < i / 4 + 1 := Int.emod_lt_of_pos _ (by omega)
  go_enter Try.func18, Try.ntmps18
  go_wp2
  go_ret
  exact ⟨rfl, rfl⟩

set_option maxHeartbeats 1000000 in
theorem jit_neg (i d : Int) (w : World) (hi : 1 ≤ i) (hd : d < 0) (hi2 : i ≤ 9223372036854775807) (hd2 : -9223372036854775807 ≤ d) : Calls Try.prog 18 #[.int .i64 i, .int .i64 d] w fun e w' => e = .returned (.int .i64 (jit i (-d))) ∧ w = w' := by
  have b1 : 0 ≤ (-d) % (i / 4 + 1) := Int.emod_nonneg _ (by omega)
  have b2 : (-d) % (i / 4 + 1) < i / 4 + 1 := Int.emod_lt_of_pos _ (by omega)
  go_enter Try.func18, Try.ntmps18
  go_wp2
  go_ret
  exact ⟨ret_int (jit_back i d hi hd hi2), rfl⟩

set_option maxHeartbeats 1000000 in
theorem jit_min (i d : Int) (w : World) (hi : 1 ≤ i) (hd : d ≤ -9223372036854775808) (hi2 : i ≤ 9223372036854775807) (hd2 : -9223372036854775808 ≤ d) : Calls Try.prog 18 #[.int .i64 i, .int .i64 d] w fun e w' => e = .returned (.int .i64 (jit i 0)) ∧ w = w' := by
  have hw := wneg d hd hd2
  go_enter Try.func18, Try.ntmps18
  go_wp2
  go_ret
  exact ⟨ret_int (jit_zero i), rfl⟩

theorem jitter_any (i d : Int) (w : World) (hi : -9223372036854775808 ≤ i) (hi2 : i ≤ 9223372036854775807) (hd : -9223372036854775808 ≤ d) (hd2 : d ≤ 9223372036854775807) : Calls Try.prog 18 #[.int .i64 i, .int .i64 d] w fun e w' => e = .returned (.int .i64 (jitV i d)) ∧ w = w' := by
  by_cases h1 : i < 1
  · rw [show jitV i d = i from if_pos h1]; exact jit_small i d w h1
  · by_cases h2 : d ≤ -9223372036854775808
    · rw [show jitV i d = jit i 0 by unfold jitV; rw [if_neg h1, if_pos h2]]; exact jit_min i d w (by omega) h2 hi2 hd
    · by_cases h3 : d < 0
      · rw [show jitV i d = jit i (-d) by unfold jitV; rw [if_neg h1, if_neg h2, if_pos h3]]; exact jit_neg i d w (by omega) h3 hi2 (by omega)
      · rw [show jitV i d = jit i d by unfold jitV; rw [if_neg h1, if_neg h2, if_neg h3]]; exact jit_pos i d w (by omega) (by omega) hi2 hd2

set_option maxHeartbeats 1000000 in
theorem jit_smallR (i d : Int) (w : World) (hi : i < 1) : Calls Try.prog 19 #[.int .i64 i, .int .i64 d] w fun e w' => e = .returned (.int .i64 i) ∧ w = w' := by
  go_enter Try.func19, Try.ntmps19
  go_wp2
  go_ret
  exact ⟨rfl, rfl⟩

set_option maxHeartbeats 1000000 in
theorem jit_posR (i d : Int) (w : World) (hi : 1 ≤ i) (hd : 0 ≤ d) (hi2 : i ≤ 9223372036854775807) (hd2 : d ≤ 9223372036854775807) : Calls Try.prog 19 #[.int .i64 i, .int .i64 d] w fun e w' => e = .returned (.int .i64 (jit i d)) ∧ w = w' := by
  have b1 : 0 ≤ d % (i / 4 + 1) := Int.emod_nonneg _ (by omega)
  have b2 : d % (i / 4 + 1) < i / 4 + 1 := Int.emod_lt_of_pos _ (by omega)
  go_enter Try.func19, Try.ntmps19
  go_wp2
  go_ret
  exact ⟨rfl, rfl⟩

set_option maxHeartbeats 1000000 in
theorem jit_negR (i d : Int) (w : World) (hi : 1 ≤ i) (hd : d < 0) (hi2 : i ≤ 9223372036854775807) (hd2 : -9223372036854775807 ≤ d) : Calls Try.prog 19 #[.int .i64 i, .int .i64 d] w fun e w' => e = .returned (.int .i64 (jit i (-d))) ∧ w = w' := by
  have b1 : 0 ≤ (-d) % (i / 4 + 1) := Int.emod_nonneg _ (by omega)
  have b2 : (-d) % (i / 4 + 1) < i / 4 + 1 := Int.emod_lt_of_pos _ (by omega)
  go_enter Try.func19, Try.ntmps19
  go_wp2
  go_ret
  exact ⟨ret_int (jit_back i d hi hd hi2), rfl⟩

set_option maxHeartbeats 1000000 in
theorem jit_minR (i d : Int) (w : World) (hi : 1 ≤ i) (hd : d ≤ -9223372036854775808) (hi2 : i ≤ 9223372036854775807) (hd2 : -9223372036854775808 ≤ d) : Calls Try.prog 19 #[.int .i64 i, .int .i64 d] w fun e w' => e = .returned (.int .i64 (jit i 0)) ∧ w = w' := by
  have hw := wneg d hd hd2
  go_enter Try.func19, Try.ntmps19
  go_wp2
  go_ret
  exact ⟨ret_int (jit_zero i), rfl⟩

theorem jitter_anyR (i d : Int) (w : World) (hi : -9223372036854775808 ≤ i) (hi2 : i ≤ 9223372036854775807) (hd : -9223372036854775808 ≤ d) (hd2 : d ≤ 9223372036854775807) : Calls Try.prog 19 #[.int .i64 i, .int .i64 d] w fun e w' => e = .returned (.int .i64 (jitV i d)) ∧ w = w' := by
  by_cases h1 : i < 1
  · rw [show jitV i d = i from if_pos h1]; exact jit_smallR i d w h1
  · by_cases h2 : d ≤ -9223372036854775808
    · rw [show jitV i d = jit i 0 by unfold jitV; rw [if_neg h1, if_pos h2]]; exact jit_minR i d w (by omega) h2 hi2 hd
    · by_cases h3 : d < 0
      · rw [show jitV i d = jit i (-d) by unfold jitV; rw [if_neg h1, if_neg h2, if_pos h3]]; exact jit_negR i d w (by omega) h3 hi2 (by omega)
      · rw [show jitV i d = jit i d by unfold jitV; rw [if_neg h1, if_neg h2, if_neg h3]]; exact jit_posR i d w (by omega) (by omega) hi2 hd2

theorem jitV_bound (i d : Int) (hi : 1 ≤ i) : jitV i d ≤ i ∧ i - i / 4 ≤ jitV i d := by
  have key : ∀ d, jit i d ≤ i ∧ i - i / 4 ≤ jit i d := fun d => by
    have b1 : 0 ≤ d % (i / 4 + 1) := Int.emod_nonneg _ (by omega)
    have b2 : d % (i / 4 + 1) < i / 4 + 1 := Int.emod_lt_of_pos _ (by omega)
    unfold jit
    omega
  unfold jitV
  rw [if_neg (by omega)]
  split
  · exact key 0
  · split
    · exact key _
    · exact key _
theorem jitV_small (i d : Int) (hi : i < 1) : jitV i d = i := if_pos hi
theorem jitV_live : jitV 1000 7 = 993 := by decide
end Go.Proofs.Ytannmemocaibiaa
