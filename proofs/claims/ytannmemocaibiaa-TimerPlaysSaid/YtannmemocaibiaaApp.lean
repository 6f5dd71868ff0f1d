/-
  append onto a row of (name, time) of the call's own: any source, nil let in.
-/
import Derived.Test.YtannmemocaibiaaRpop
import Derived.Test.YtannmemocaibiaaLst
import Derived.Maps.AppendAt
import Derived.Deep.AppendLies
import Derived.Deep.RegionHeld3
namespace Go.Proofs.Ytannmemocaibiaa
open Go.RowKit

theorem add_at (b off j : Nat) : (⟨b, off, none⟩ : Addr).add j = ⟨b, off + j, none⟩ := by
  unfold Addr.add
  split <;> simp_all

/-- The cells that an append reads. -/
def Rd (w : World) (A : Option Addr) (m : Nat) (news : List Value) : Prop :=
  news.length = m * 2 ∧ (A = none → m = 0) ∧ ∀ ad, A = some ad → ∀ j u, news[j]? = some u → w.cell? (ad.add j) = some u

theorem rd_row {w : World} {b off : Nat} {L : List KV} (hc : ∀ (i : Nat) (x : KV), L[i]? = some x → w.cell? ⟨b, off + i * 2, none⟩ = some (.string x.1) ∧ w.cell? ⟨b, off + i * 2 + 1, none⟩ = some (.int .i64 x.2)) :
    ∀ j u, (dueC L)[j]? = some u → w.cell? ((⟨b, off, none⟩ : Addr).add j) = some u := by
  intro j u hu
  have hj : j < L.length * 2 := by
    rw [← dueC_len]
    rcases Nat.lt_or_ge j (dueC L).length with h | h
    · exact h
    · rw [List.getElem?_eq_none h] at hu; cases hu
  rw [dueC_get L j hj] at hu
  have hi : j / 2 < L.length := by omega
  obtain ⟨e0, e1⟩ := hc (j / 2) L[j / 2] (List.getElem?_eq_getElem hi)
  have hL : L[j / 2]! = L[j / 2] := getElem!_pos L (j / 2) hi
  rw [hL] at hu
  rw [add_at]
  rcases Nat.mod_two_eq_zero_or_one j with h | h
  · rw [show off + j / 2 * 2 = off + j by omega] at e0
    rw [h] at hu
    rw [e0]
    exact hu
  · rw [show off + j / 2 * 2 + 1 = off + j by omega] at e1
    rw [h] at hu
    rw [e1]
    exact hu
theorem rd_take {w : World} {b off : Nat} {L : List KV} (hc : ∀ (i : Nat) (x : KV), L[i]? = some x → w.cell? ⟨b, off + i * 2, none⟩ = some (.string x.1) ∧ w.cell? ⟨b, off + i * 2 + 1, none⟩ = some (.int .i64 x.2)) {k : Nat} (hk : k ≤ L.length) :
    Rd w (some ⟨b, off, none⟩) k (dueC (L.take k)) :=
  ⟨by rw [dueC_len, List.length_take, Nat.min_eq_left hk], fun e => (by cases e), fun ad e => by
    injection e with e
    subst e
    refine rd_row (fun i x hx => hc i x ?_)
    rcases Nat.lt_or_ge i k with h | h
    · rwa [List.getElem?_take_of_lt h] at hx
    · rw [List.getElem?_eq_none (by rw [List.length_take]; omega)] at hx; cases hx⟩
theorem rd_drop {w : World} {b off : Nat} {L : List KV} (hc : ∀ (i : Nat) (x : KV), L[i]? = some x → w.cell? ⟨b, off + i * 2, none⟩ = some (.string x.1) ∧ w.cell? ⟨b, off + i * 2 + 1, none⟩ = some (.int .i64 x.2)) (k : Nat) :
    Rd w (some ⟨b, off + k * 2, none⟩) (L.length - k) (dueC (L.drop k)) :=
  ⟨by rw [dueC_len, List.length_drop], fun e => (by cases e), fun ad e => by
    injection e with e
    subst e
    refine rd_row (fun i x hx => ?_)
    rw [List.getElem?_drop] at hx
    have := hc (k + i) x hx
    rw [show off + (k + i) * 2 = off + k * 2 + i * 2 by omega] at this
    exact this⟩

theorem run_app (w : World) (v : Value) (n : Nat) (xs : List Value) (hown : w.ownsRow 0 40 2 v n xs) (A : Option Addr) (m c : Nat) (news : List Value) (hr : Rd w A m news) (h1 : ∀ u ∈ news, u.oneCell' = true) (hn : n + m ≤ 1000000) :
    ∃ v' w', (Builtin.append_ #[44, 44] 44 #[v, .slice A m c]).run Try.prog w = .ok v' w' ∧ w'.ownsRow 0 40 2 v' (n + m) (xs ++ news) ∧ w.grownBy w' v.ownBlock ∧ (v'.ownBlock = v.ownBlock ∨ v'.ownBlock = some w.heap.size) := by
  obtain ⟨i0, hi, hz0, hz1, hz2⟩ := info_parts info40
  match A, hr with
  | none, hr =>
    have hm := hr.2.1 rfl
    subst hm
    have hnews : news = [] := List.eq_nil_of_length_eq_zero (by have := hr.1; omega)
    subst hnews
    refine ⟨v, w, ?_, by simpa using hown, World.grownBy.refl w _, .inl rfl⟩
    rcases hown.2 with ⟨rfl, rfl⟩ | ⟨g, cap, cur, rfl, _, _, hnc, _⟩
    · simp [Builtin.append_, run_underlying Try.underlying44, sizeOf, typeInfo, hi, Builtin.lenOf, Builtin.firstCells]
    · simp [Builtin.append_, run_underlying Try.underlying44, sizeOf, typeInfo, hi, Builtin.lenOf, Builtin.firstCells, hnc, storeCells]
  | some ad, hr =>
    obtain ⟨v', w', hrun, h2, h3, _, h5⟩ := run_append_own_at (P := Try.prog) w 0 44 44 40 i0 _ 2 24 Try.underlying44 hi hz0 hz1 hz2 rfl (by decide) v n xs hown ad m c news hr.1 (hr.2.2 ad rfl) h1 (by unfold maxLen; omega) (by omega) (Nat.zero_le _)
    exact ⟨v', w', hrun, h2, h3, h5⟩

theorem step_app {w : World} {ops : Array Oper} {o : Oper} {a : Act} {K : Act → World → Prop} {Q : Exit → Act → World → Prop} {E : Prop} (hgd : o.guard = none) (s x : Operand)
    (ho : o.op = .call { callee := .builtin .append, args := #[s, x], argTypes := #[44, 44] }) (hty : o.type = 44)
    (v : Value) (n : Nat) (xs : List Value) (hs : a.eval s = v) (hown : w.ownsRow 0 40 2 v n xs)
    (A : Option Addr) (m c : Nat) (news : List Value) (hx : a.eval x = .slice A m c) (hr : Rd w A m news) (h1 : ∀ u ∈ news, u.oneCell' = true) (hn : n + m ≤ 1000000)
    (h : ∀ v' w', w'.ownsRow 0 40 2 v' (n + m) (xs ++ news) → w.grownBy w' v.ownBlock → (v'.ownBlock = v.ownBlock ∨ v'.ownBlock = some w.heap.size) → K (a.put o.dst v') w') :
    if Region.wanted o (yielded ops a.tmps) = true then Oper.wp Try.prog o a w K Q else E := by
  have hw : Region.wanted o (yielded ops a.tmps) = true := by simp [Region.wanted, hgd]
  rw [if_pos hw]
  obtain ⟨v', w', hrun, h2, h3, h4⟩ := run_app w v n xs hown A m c news hr h1 hn
  rw [← hty] at hrun
  unfold Oper.wp execOp
  simp only [ho, resolve, invoke, builtin, Sem.run_bind, Sem.run_pure, Result.andThen_ok, List.map_toArray, List.map_cons, List.map_nil, hs, hx]
  rw [show o.type = 44 from hty] at hrun ⊢
  simp only [hrun]
  exact h v' w' h2 h3 h4

theorem dueC_one (L : List KV) : ∀ u ∈ dueC L, u.oneCell' = true := by
  intro u hu
  simp only [dueC, List.mem_flatMap, List.mem_cons, List.not_mem_nil, or_false] at hu
  obtain ⟨x, _, rfl | rfl⟩ := hu <;> rfl
theorem own_empty (w : World) : (w.alloc (.cells #[] 40)).ownsRow 0 40 2 (.slice (some ⟨w.heap.size, 0, none⟩) 0 0) 0 [] :=
  ⟨rfl, .inr ⟨w.heap.size, 0, #[], rfl, Nat.zero_le _, heap_alloc_new w _, Nat.le_refl _, Nat.zero_le _, rfl, rfl⟩⟩
end Go.Proofs.Ytannmemocaibiaa
