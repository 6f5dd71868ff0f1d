/-
  The walk of Copy.
-/
import Derived.Test.YtannmemocaibiaaQls
import Derived.Test.YtannmemocaibiaaMany
namespace Go.Proofs.Ytannmemocaibiaa
open Go.RowKit

theorem ins_last {d : KV} : ∀ {l : List KV}, (∀ x ∈ l, lt2 x d) → ins d l = l ++ [d]
  | [], _ => rfl
  | x :: l, h => by
    have hx := h x (List.mem_cons_self ..)
    have : ltB d x = false := by
      cases hb : ltB d x with
      | false => rfl
      | true => exact absurd hx (lt2_asymm ((ltB_iff _ _).1 hb))
    simp only [ins, this, List.cons_append]
    rw [ins_last (fun y hy => h y (List.mem_cons_of_mem _ hy))]
    rfl
theorem setS_take {L : List KV} {k : Nat} {x : KV} (ho : Ord L) (hnd : (L.map (·.1)).Nodup) (hx : L[k]? = some x) : setS (L.take k) x.1 x.2 = L.take (k + 1) := by
  have hk : k < L.length := by
    rcases Nat.lt_or_ge k L.length with h | h
    · exact h
    · rw [List.getElem?_eq_none h] at hx; cases hx
  have hs : L.take (k + 1) = L.take k ++ [x] := by rw [List.take_add_one, hx]; rfl
  have h1 : Ord (L.take k ++ [x]) := by rw [← hs]; exact List.Pairwise.sublist (List.take_sublist _ _) ho
  have h2 : ((L.take k ++ [x]).map (·.1)).Nodup := by rw [← hs]; exact List.Nodup.sublist ((List.take_sublist _ _).map _) hnd
  have h3 : ¬ hasN (L.take k) x.1 := by
    rintro ⟨y, hy, e⟩
    rw [List.map_append, List.nodup_append] at h2
    exact h2.2.2 y.1 (List.mem_map.2 ⟨y, hy, rfl⟩) x.1 (by simp) e
  unfold setS
  rw [others_not h3, hs]
  exact ins_last (fun y hy => (List.pairwise_append.1 h1).2.2 y hy x (by simp))

/-- A slice of (name, time) in memory, none of the queue's. -/
def DueN (w : World) (F : Nat → Prop) (A : Option Addr) (L : List KV) : Prop :=
  0 < L.length → ∃ b, A = some ⟨b, 0, none⟩ ∧ ¬ F b ∧ b < w.heap.size ∧ ∀ (i : Nat) (x : KV), L[i]? = some x → w.cell? ⟨b, i * 2, none⟩ = some (.string x.1) ∧ w.cell? ⟨b, i * 2 + 1, none⟩ = some (.int .i64 x.2)
section
variable {w w' : World} {F F' : Nat → Prop} {A : Option Addr} {L : List KV}
theorem DueN.same (h : DueN w F A L) : DueS w A L := by
  intro hp
  obtain ⟨b, h1, h2, h3, h4⟩ := h hp
  refine ⟨b, 0, h1, fun i x hx => ?_⟩
  rw [Nat.zero_add]
  exact h4 i x hx
theorem DueO.notin {B : Nat} (h : DueO B w A L) (hF : ∀ k, F k → k < B) : DueN w F A L := by
  intro hp
  obtain ⟨b, h1, h2, h3, h4⟩ := h hp
  exact ⟨b, h1, fun hf => by have := hF b hf; omega, h3, h4⟩
theorem DueN.move (h : DueN w F A L) (hm : Move w w' F F') : DueN w' F' A L := by
  intro hp
  obtain ⟨b, h1, h2, h3, h4⟩ := h hp
  have hk := hm.only.block b h3 h2
  refine ⟨b, h1, hm.apart b h3 h2, by have := hm.only.size; omega, fun i x hx => ?_⟩
  rw [World.cell?_of_block (a := ⟨b, i * 2, none⟩) hk, World.cell?_of_block (a := ⟨b, i * 2 + 1, none⟩) hk]
  exact h4 i x hx
theorem DueN.later (h : DueN w F A L) (hb : Below w.heap.size w w') : DueN w' F A L := h.move (Move.of_below hb F)
theorem DueN.alloc (h : DueN w F A L) (o : Obj) : DueN (w.alloc o) F A L := h.later ((Below.refl _ _).alloc (Nat.le_refl _) o)
theorem DueN.drew (h : DueN w F A L) : DueN w.drew F A L := h.later (Below.refl _ _).drew
end

set_option maxRecDepth 100000 in
set_option maxHeartbeats 4000000 in
theorem copy_any {w : World} {q : Nat} {F : Nat → Prop} {L : List KV} (h : Que w q F L) (hn : L.length ≤ 4096) :
    Calls Try.prog 20 #[.pointer (some ⟨q, 0, none⟩)] w fun e w' => ∃ c F2, e = .returned (.pointer (some ⟨c, 0, none⟩)) ∧ QB w w' c F2 L := by
  have H := Lib.hid h
  clear h
  go_enter Try.func20, Try.ntmps20
  go_wp2_with fail
  refine (qb_new _).mono ?_
  rintro e w1 ⟨c, F1, rfl, hq⟩
  have HQ1 := Lib.hid hq
  clear hq
  go_wp2_with fail
  refine (que_list (H.out.below HQ1.out.below) (by omega)).mono ?_
  rintro e w2 ⟨⟨A, cc, rfl, hd⟩, hb⟩
  have hd2 := hd.notin HQ1.out.que.lt
  have HQ2 := Lib.hid (HQ1.out.later hb)
  have HD2 := Lib.hid hd2
  have HL := Lib.hid hn
  clear hd hd2 hb
  go_wp2_with fail
  go_loopw [12] (fun vi wr => ∃ (k : Nat) (F2 : Nat → Prop), k ≤ L.length ∧ vi = .int .i64 k ∧ QB w wr c F2 (L.take k) ∧ DueN wr F2 A L)
    (fun vi _ => L.length - (intOf vi).toNat)
  case atStart => exact ⟨0, F1, Nat.zero_le _, rfl, HQ2.out, HD2.out⟩
  case round =>
    obtain ⟨k, F2, hk, rfl, hq, hd⟩ := hrel
    have HQ := Lib.hid hq
    have HD := Lib.hid hd
    clear hq hd
    by_cases hkn : k < L.length
    · obtain ⟨b, hA, hbF, hbl, hc⟩ := HD.out (by omega)
      subst hA
      obtain ⟨x, hx⟩ : ∃ x, L[k]? = some x := ⟨L[k], List.getElem?_eq_getElem hkn⟩
      obtain ⟨e0, e1⟩ := hc k x hx
      have Hx := Lib.hid hx
      clear hx hc
      obtain ⟨s, t⟩ := x
      dsimp only at e0 e1
      go_wp2_with fail
      refine (qb_set (HQ.out.alloc _) s t (.inr (by rw [List.length_take]; omega)) (by rw [List.length_take]; omega)).mono ?_
      rintro e w3 ⟨rfl, F3, hq3, hmv⟩
      have hs := setS_take H.out.ord H.out.names Hx.out
      dsimp only at hs
      rw [hs] at hq3
      have HQ3 := Lib.hid hq3
      have HD3 := Lib.hid ((HD.out.alloc _).move hmv)
      clear hq3 hmv hs e0 e1
      go_wp2_with fail
      refine ⟨⟨k + 1, F3, by omega, by go_num, HQ3.out, HD3.out⟩, by simp [intOf]; omega⟩
    · have hke : k = L.length := by omega
      subst hke
      have hq := HQ.out
      rw [List.take_length] at hq
      have HQ4 := Lib.hid hq
      clear hq
      go_wp2_with fail
      go_ret
      exact ⟨c, F2, rfl, HQ4.out⟩
end Go.Proofs.Ytannmemocaibiaa
