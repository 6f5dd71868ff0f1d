/-
  The walk of Same.
-/
import Derived.Test.YtannmemocaibiaaList
namespace Go.Proofs.Ytannmemocaibiaa
open Go.RowKit

/-- A slice of (name, time) in memory. -/
def DueS (w : World) (A : Option Addr) (xs : List KV) : Prop :=
  0 < xs.length → ∃ b off, A = some ⟨b, off, none⟩ ∧ ∀ (i : Nat) (x : KV), xs[i]? = some x → w.cell? ⟨b, off + i * 2, none⟩ = some (.string x.1) ∧ w.cell? ⟨b, off + i * 2 + 1, none⟩ = some (.int .i64 x.2)

set_option maxRecDepth 100000 in
set_option maxHeartbeats 1000000 in
theorem same_any (A A' : Option Addr) (c c' : Nat) (xs ys : List KV) (w : World) (hx : DueS w A xs) (hy : DueS w A' ys) (hn : xs.length ≤ 1000000) (_ : ys.length ≤ 1000000) :
    Calls Try.prog 21 #[.slice A xs.length c, .slice A' ys.length c'] w fun e w' => e = .returned (.bool (decide (xs = ys))) ∧ ∃ n, w' = w.drewN n := by
  unfold DueS at hx hy
  have HX := Lib.hid hx
  have HY := Lib.hid hy
  clear hx hy
  by_cases hl : xs.length = ys.length
  · have Hl := Lib.hid hl
    rw [← hl]
    clear hl
    go_enter Try.func21, Try.ntmps21
    go_wp2_with fail
    go_loopw [5] (fun vi wr => ∃ (k n : Nat), k ≤ xs.length ∧ vi = .int .i64 k ∧ wr = w.drewN n ∧ xs.take k = ys.take k)
      (fun vi _ => xs.length - (intOf vi).toNat)
    case atStart => exact ⟨0, 0, Nat.zero_le _, rfl, rfl, rfl⟩
    case round =>
      obtain ⟨k, n, hk, rfl, rfl, ht⟩ := hrel
      have HT := Lib.hid ht
      clear ht
      by_cases hkn : k < xs.length
      · obtain ⟨b, off, hA, hc⟩ := HX.out (by omega)
        obtain ⟨b', off', hA', hc'⟩ := HY.out (by have := Hl.out; omega)
        subst hA hA'
        obtain ⟨x, hx⟩ : ∃ x, xs[k]? = some x := ⟨xs[k], List.getElem?_eq_getElem hkn⟩
        obtain ⟨y, hy⟩ : ∃ y, ys[k]? = some y := ⟨ys[k]'(by have := Hl.out; omega), List.getElem?_eq_getElem (by have := Hl.out; omega)⟩
        obtain ⟨e0, e1⟩ := hc k x hx
        obtain ⟨g0, g1⟩ := hc' k y hy
        obtain ⟨s, t⟩ := x
        obtain ⟨s', t'⟩ := y
        dsimp only at e0 e1 g0 g1
        have Hx := Lib.hid hx
        have Hy := Lib.hid hy
        clear hx hy hc hc'
        by_cases hs : s.toList = s'.toList
        · by_cases htt : t = t'
          · have hss : s = s' := bytes_ext hs
            subst hss htt
            clear hs
            go_wp2_with fail
            go_quiet (fail)
            go_wp2_with fail
            refine ⟨⟨k + 1, _, by omega, by go_num, rfl, ?_⟩, by simp [intOf]; omega⟩
            rw [List.take_add_one, List.take_add_one, Hx.out, Hy.out, HT.out]
          · have hf : decide (xs = ys) = false := decide_eq_false fun e => htt (by
              have h1 := Hx.out
              rw [e, Hy.out] at h1
              injection h1 with h1
              injection h1 with _ h1
              exact h1.symm)
            have HF := Lib.hid hf
            clear hf
            go_wp2_with fail
            go_quiet (fail)
            go_wp2_with fail
            go_ret
            exact ⟨by rw [HF.out]; rfl, n + nq, by rw [World.drewN_drewN]⟩
        · have hf : decide (xs = ys) = false := decide_eq_false fun e => hs (by
            have h1 := Hx.out
            rw [e, Hy.out] at h1
            injection h1 with h1
            injection h1 with h1 _
            rw [h1])
          have HF := Lib.hid hf
          clear hf
          go_wp2_with fail
          go_quiet (fail)
          go_wp2_with fail
          go_ret
          exact ⟨by rw [HF.out]; rfl, n + nq, by rw [World.drewN_drewN]⟩
      · have hke : k = xs.length := by omega
        subst hke
        have hf : decide (xs = ys) = true := decide_eq_true (by
          have h1 := HT.out
          rw [List.take_length, Hl.out, List.take_length] at h1
          exact h1)
        have HF := Lib.hid hf
        clear hf
        go_wp2_with fail
        go_ret
        exact ⟨by rw [HF.out]; rfl, _, rfl⟩
  · have hf : decide (xs = ys) = false := decide_eq_false fun e => hl (by rw [e])
    rw [hf]
    have hb : ((xs.length : Int) != (ys.length : Int)) = true := by rw [bne_iff_ne]; omega
    clear hl hf
    go_enter Try.func21, Try.ntmps21
    go_wp2_with fail
    go_ret
    exact ⟨rfl, 0, rfl⟩
end Go.Proofs.Ytannmemocaibiaa
