/-
  The list of a queue, in order.
-/
import Derived.Test.YtannmemocaibiaaSortA
import Derived.Test.YtannmemocaibiaaOrdB
import Derived.Test.YtannmemocaibiaaShelf
namespace Go.Proofs.Ytannmemocaibiaa
open Go.RowKit

def encD (x : KV) : List Value := [.string x.1, .int .i64 x.2]
theorem dueC_get : ∀ (l : List KV) (j : Nat), j < l.length * 2 → (dueC l)[j]? = some (encD l[j / 2]!)[j % 2]!
  | [], j, h => by simp at h
  | x :: l, 0, _ => by simp [dueC, encD]
  | x :: l, 1, _ => by simp [dueC, encD]
  | x :: l, j + 2, h => by
    have ih := dueC_get l j (by simp only [List.length_cons] at h; omega)
    have e1 : (j + 2) / 2 = j / 2 + 1 := by omega
    have e2 : (j + 2) % 2 = j % 2 := by omega
    rw [e1, e2, List.getElem!_cons_succ, ← ih]
    simp [dueC]

/-- A slice of (name, time) of its own in memory. -/
def DueO (B : Nat) (w : World) (A : Option Addr) (L : List KV) : Prop :=
  0 < L.length → ∃ b, A = some ⟨b, 0, none⟩ ∧ B ≤ b ∧ b < w.heap.size ∧ ∀ (i : Nat) (x : KV), L[i]? = some x → w.cell? ⟨b, i * 2, none⟩ = some (.string x.1) ∧ w.cell? ⟨b, i * 2 + 1, none⟩ = some (.int .i64 x.2)

theorem DueO.later {B : Nat} {w w' : World} {A : Option Addr} {L : List KV} (h : DueO B w A L) (hb : Below w.heap.size w w') : DueO B w' A L := by
  intro hp
  obtain ⟨b, h1, h2, h3, h4⟩ := h hp
  refine ⟨b, h1, h2, by have := hb.size; omega, fun i x hx => ?_⟩
  rw [hb.cell (p := ⟨b, i * 2, none⟩) h3, hb.cell (p := ⟨b, i * 2 + 1, none⟩) h3]
  exact h4 i x hx
theorem DueO.only {B : Nat} {w w' : World} {A : Option Addr} {L : List KV} {F : Nat → Prop} (h : DueO B w A L) (hb : Only F w w') (hF : ∀ k, B ≤ k → k < w.heap.size → ¬ F k) (hs : w.heap.size ≤ w'.heap.size) : DueO B w' A L := by
  intro hp
  obtain ⟨b, h1, h2, h3, h4⟩ := h hp
  refine ⟨b, h1, h2, by omega, fun i x hx => ?_⟩
  have hk := hb.block b h3 (hF b h2 h3)
  rw [World.cell?_of_block (a := ⟨b, i * 2, none⟩) hk, World.cell?_of_block (a := ⟨b, i * 2 + 1, none⟩) hk]
  exact h4 i x hx
theorem DueO.same {B : Nat} {w : World} {A : Option Addr} {L : List KV} (h : DueO B w A L) : DueS w A L := by
  intro hp
  obtain ⟨b, h1, h2, h3, h4⟩ := h hp
  refine ⟨b, 0, h1, fun i x hx => ?_⟩
  rw [Nat.zero_add]
  exact h4 i x hx

theorem sort_any (A : Option Addr) (c : Nat) (l : List KV) (w : World) (B : Nat) (hB : B ≤ w.heap.size) (hrow : w.ownsRow 0 40 2 (.slice A l.length c) l.length (dueC l)) (hbase : ∀ g, (Value.slice A l.length c).ownBlock = some g → B ≤ g) (hn : l.length ≤ 1000000) :
    Calls Try.prog 30 #[.slice A l.length c, .func (.func 31) #[] #[]] w fun e w2 => e = .returned (.tuple #[]) ∧ DueO B w2 A (l.mergeSort fun x y => !ltD y x) ∧ Below B w w2 := by
  by_cases h0 : l.length = 0
  · have hl : l = [] := List.eq_nil_of_length_eq_zero h0
    subst hl
    refine (AnyF.slices_SortFunc_none Try.sortDue A c _ w).mono ?_
    rintro e w2 ⟨rfl, rfl⟩
    exact ⟨rfl, fun h => by simp at h, Below.refl _ _⟩
  · rcases hrow.2 with ⟨_, h⟩ | ⟨g, cap, cur, hv, _, hh, h1, h2, h3, h4⟩
    · exact absurd h h0
    · injection hv with hA _ hc
      subst hA hc
      have hg : g < w.heap.size := by
        rcases Nat.lt_or_ge g w.heap.size with h | h
        · exact h
        · rw [Array.getElem?_eq_none h] at hh; cases hh
      have hgB : B ≤ g := hbase g (by simp [Value.ownBlock])
      have hH : Sort.HoldsK encD 2 w g 0 l.toArray := by
        intro j hj
        rw [Sort.size_flatK, List.size_toArray] at hj
        rw [Sort.get_flatK _ _ _ _ (by simpa using hj)]
        have e1 : (dueC l)[j]? = cur[j]? := by rw [← h4, List.getElem?_take_of_lt hj, Array.getElem?_toList]
        rw [dueC_get l j hj] at e1
        constructor
        · simp only [World.cell?, hh, Nat.zero_add]
          rw [← e1]
          simp
        · simp [World.frozen?, hh]
      have eg : ∀ args w, (callFunc 31 args).run Try.prog w = .ok (.enter 31 args) w := enters_of Try.func31 (by kernel_rfl) rfl
      have := AnyQ.slices_SortFunc_total Try.sortDue 2 Try.isAgg40 Try.sizeOf40 encD (fun _ => rfl) (fun x v hv => by simp [encD] at hv; rcases hv with rfl | rfl <;> rfl) cmpD swoD 31 #[] g 0 c l.toArray w eg (fun _ _ _ _ x y => compare_grow x.1 y.1 x.2 y.2 _) hH hg (by simp; omega) totD
      refine this.mono ?_
      rintro e w2 ⟨rfl, n, os, rfl⟩
      have hl : (l.mergeSort fun x y => !ltD y x).length = l.length := List.length_mergeSort ..
      have hH2 := holdsK_sortWorldK encD 2 w g 0 n l.toArray (l.mergeSort fun x y => !ltD y x).toArray os hg hH (by simp)
      refine ⟨rfl, fun _ => ⟨g, rfl, hgB, lt_sortWorldK _ _ _ _ _ _ _ _ hg, fun i x hx => ?_⟩, ?_⟩
      · have hi : i < (l.mergeSort fun x y => !ltD y x).length := by
          rcases Nat.lt_or_ge i (l.mergeSort fun x y => !ltD y x).length with h | h
          · exact h
          · rw [List.getElem?_eq_none h] at hx; cases hx
        have c0 := (hH2.cell (i := i) (c := 0) (by simpa using hi) (by omega)).1
        have c1 := (hH2.cell (i := i) (c := 1) (by simpa using hi) (by omega)).1
        have ex : (l.mergeSort fun x y => !ltD y x).toArray[i]! = x := by
          simp [hx]
        rw [ex, Nat.zero_add] at c0 c1
        exact ⟨c0, c1⟩
      · refine ⟨rfl, rfl, rfl, size_sortWorldK_c _ _ _ _ _ _ _ _, fun k hk => ?_⟩
        have hkg : g ≠ k := by omega
        unfold sortWorldK
        rw [Sort.heap_grow_old _ _ (by simp [Sort.putRowK, Sort.putRow, Sort.mapBlock, Sort.ahead]; omega)]
        simp [Sort.putRowK, Sort.putRow, Sort.mapBlock, Sort.ahead, Array.getElem?_modify, hkg]
end Go.Proofs.Ytannmemocaibiaa
