/-
  The walk of TimerPlays, joined: any number of acts.
-/
import Derived.Test.YtannmemocaibiaaPlays
namespace Go.Proofs.Ytannmemocaibiaa
open Go.RowKit

set_option maxRecDepth 100000 in
set_option maxHeartbeats 4000000 in
theorem plays_out (A : Option Addr) (c : Nat) (xs : List ActV) (w : World) (hA : Acts w A xs) (h1 : 200 < xs.length) :
    Calls Try.prog 7 #[.slice A xs.length c] w fun e w' => e = .returned (.bool true) ∧ Below w.heap.size w w' := by
  have HA := Lib.hid hA
  clear hA
  go_enter Try.func7, Try.ntmps7
  go_wp2_with fail
  go_loopw [3, 4] (fun vn vi wr => ∃ (k : Nat) (n : Int), k ≤ 201 ∧ vi = .int .i64 k ∧ vn = .int .i64 n ∧ w = wr)
    (fun _ vi _ => 201 - (intOf vi).toNat)
  case atStart => exact ⟨0, 0, Nat.zero_le _, rfl, rfl, rfl⟩
  case round =>
    obtain ⟨k, n, hk, rfl, rfl, rfl⟩ := hrel
    by_cases hkn : k < 201
    · obtain ⟨b, off, hAe, hbl, hcells⟩ := HA.out.cells (by omega)
      subst hAe
      obtain ⟨x, hx⟩ : ∃ x, xs[k]? = some x := ⟨xs[k], List.getElem?_eq_getElem (by omega)⟩
      obtain ⟨_, c1, _⟩ := hcells k x hx
      clear hx hcells
      have hk2 : decide ((k : Int) ≤ 200) = true := decide_eq_true (by omega)
      have hk3 : decide ((k : Int) < (xs.length : Int)) = true := decide_eq_true (by omega)
      have hk4 : (k : Int) < (xs.length : Int) := by omega
      go_wp2_with fail
      refine ⟨⟨k + 1, _, by omega, by go_num, rfl, trivial⟩, by simp [intOf]; omega⟩
    · have hke : k = 201 := by omega
      subst hke
      have hz0 : decide ((200 : Int) < (xs.length : Int)) = true := decide_eq_true (by omega)
      have hz1 : decide (((201 : Nat) : Int) ≤ 200) = false := by decide
      go_wp2_with fail
      all_goals
        refine (live_any _).mono ?_
        rintro e w9 ⟨rfl, hb⟩
        have HB := Lib.hid hb
        clear hb
        go_wp2_with fail
        go_ret
        exact ⟨rfl, HB.out⟩

theorem timerPlays_walk (A : Option Addr) (n c : Nat) (w : World) {H : Type} {enc : TypeId × Value → H} {d : DataW H} {p : List MemPlace} (k : DataW.Trod enc Try.prog w 0 (fun _ => true) true 32 (.slice A n c) d p) :
    Calls Try.prog 7 #[.slice A n c] w fun e w' => e = .returned (.bool true) ∧ Below w.heap.size w w' := by
  obtain ⟨xs, hl, hA⟩ := acts_of k
  subst hl
  by_cases h : 200 < xs.length
  · exact plays_out A c xs w hA h
  · exact plays_any A c xs w hA (by omega)
end Go.Proofs.Ytannmemocaibiaa
