/-
  The order of timers as the library's sort wants it.
-/
import Derived.Test.YtannmemocaibiaaAbs
import Derived.Sort.Statements
namespace Go.Proofs.Ytannmemocaibiaa
open Go.Sort

def ltD (x y : KV) : Bool := decide (cmpD x y < 0)
theorem ltD_iff (x y : KV) : ltD x y = true ↔ lt2 x y := by unfold ltD; rw [decide_eq_true_iff, cmpD_neg]
theorem ltD_false (x y : KV) : ltD x y = false ↔ le2 y x := by
  unfold le2
  rw [← ltD_iff]
  cases ltD x y <;> simp
theorem swoD : SWO ltD where
  irrefl x := (ltD_false x x).2 (le2_refl x)
  trans _ _ _ h1 h2 := (ltD_iff _ _).2 (lt2_trans ((ltD_iff _ _).1 h1) ((ltD_iff _ _).1 h2))
  ntrans _ _ _ h1 h2 := (ltD_false _ _).2 (le2_trans ((ltD_false _ _).1 h2) ((ltD_false _ _).1 h1))
theorem totD (x y : KV) (h1 : ltD x y = false) (h2 : ltD y x = false) : x = y := le2_antisymm ((ltD_false _ _).1 h2) ((ltD_false _ _).1 h1)

theorem mergeSort_ord {l L : List KV} (hp : l.Perm L) (ho : Ord L) : l.mergeSort (fun x y => !ltD y x) = L := by
  have htr : ∀ a b c : KV, (!ltD b a) = true → (!ltD c b) = true → (!ltD c a) = true := by
    intro a b c h1 h2
    simp only [Bool.not_eq_true'] at *
    exact (ltD_false _ _).2 (le2_trans ((ltD_false _ _).1 h1) ((ltD_false _ _).1 h2))
  have htot : ∀ a b : KV, ((!ltD b a) || (!ltD a b)) = true := by
    intro a b
    cases h : ltD b a with
    | false => rfl
    | true =>
      have := lt2_asymm ((ltD_iff _ _).1 h)
      have h2 : ltD a b = false := (ltD_false _ _).2 (fun h3 => this h3)
      simp [h2]
  have hs := List.pairwise_mergeSort htr htot l
  refine List.Perm.eq_of_pairwise (le := fun a b => (!ltD b a) = true) ?_ hs ?_ ((List.mergeSort_perm l _).trans hp)
  · intro a b _ _ h1 h2
    simp only [Bool.not_eq_true'] at h1 h2
    exact totD a b h2 h1
  · refine List.Pairwise.imp ?_ ho
    intro a b h
    simp only [Bool.not_eq_true']
    exact (ltD_false _ _).2 (le2_of_lt h)
end Go.Proofs.Ytannmemocaibiaa
