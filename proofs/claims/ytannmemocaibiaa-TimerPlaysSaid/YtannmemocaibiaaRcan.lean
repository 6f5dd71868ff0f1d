/-
  The document's Queue: Cancel.
-/
import Derived.Test.YtannmemocaibiaaApp
import Derived.Deep.RegionLaw
namespace Go.Proofs.Ytannmemocaibiaa
open Go.RowKit

theorem Rd.keep {w w' : World} {A : Option Addr} {m : Nat} {news : List Value} (h : Rd w A m news) (hk : ∀ ad, A = some ad → w'.heap[ad.block]? = w.heap[ad.block]?) : Rd w' A m news :=
  ⟨h.1, h.2.1, fun ad e j u hu => by
    have h1 := h.2.2 ad e j u hu
    have h2 : (ad.add j).block = ad.block := by unfold Addr.add; split <;> rfl
    rw [World.cell?_of_block (a := ad.add j) (w := w) (by rw [h2]; exact hk ad e)]
    exact h1⟩
theorem Rd.below {w w' : World} {A : Option Addr} {m : Nat} {news : List Value} (h : Rd w A m news) (hA : ∀ ad, A = some ad → ad.block < w.heap.size) (hb : Below w.heap.size w w') : Rd w' A m news :=
  h.keep (fun ad e => hb.block _ (hA ad e))

theorem rr_of_own {w w2 : World} {p : Nat} {x : Value} {A9 : Option Addr} {c9 n9 : Nat} {L2 : List KV} (hblk : Blk w p 52 #[x]) (hb2 : Below w.heap.size w w2) (hl : L2.length = n9) (hown : w2.ownsRow 0 40 2 (.slice A9 n9 c9) n9 (dueC L2))
    (hat : ∀ k, (Value.slice A9 n9 c9).ownBlock = some k → w.heap.size ≤ k) :
    RR (w2.setCell ⟨p, 0, none⟩ (.slice A9 n9 c9)) p A9 c9 L2 ∧ Only (fun k => k = p) w (w2.setCell ⟨p, 0, none⟩ (.slice A9 n9 c9)) ∧ ∀ ad', A9 = some ad' → w.heap.size ≤ ad'.block := by
  subst hl
  have hp := hblk.lt
  have hO : Only (fun k => k = p) w (w2.setCell ⟨p, 0, none⟩ (.slice A9 L2.length c9)) := Only.setCell (F := fun k => k = p) (p := ⟨p, 0, none⟩) (Only.of_below hb2) (fun _ => rfl) _
  have hB : Blk (w2.setCell ⟨p, 0, none⟩ (.slice A9 L2.length c9)) p 52 #[.slice A9 L2.length c9] := (hblk.below' hb2).set_ 0 _
  rcases hown.2 with ⟨h1, h2⟩ | ⟨g, cap, cur, hv, _, hh, h1, h2, h3, h4⟩
  · injection h1 with hA _ hc
    subst hA hc
    exact ⟨⟨hB, by omega, Nat.zero_le _, fun h => by omega⟩, hO, fun ad' e => by cases e⟩
  · injection hv with hA _ hc
    subst hA hc
    have hgw : w.heap.size ≤ g := hat g (by simp [Value.ownBlock])
    have hg : g < w2.heap.size := by
      rcases Nat.lt_or_ge g w2.heap.size with h | h
      · exact h
      · rw [Array.getElem?_eq_none h] at hh; cases hh
    have hgp : g ≠ p := by omega
    have hh2 : Blk (w2.setCell ⟨p, 0, none⟩ (.slice (some ⟨g, 0, none⟩) L2.length c9)) g 40 cur := Blk.far (p := ⟨p, 0, none⟩) hh hgp _
    refine ⟨⟨hB, h1, h2, fun _ => ⟨g, 0, rfl, hh2.lt, hgp, fun i y hy => ?_⟩⟩, hO, fun ad' e => by injection e with e; rw [← e]; exact hgw⟩
    have hi : i < L2.length := by
      rcases Nat.lt_or_ge i L2.length with h | h
      · exact h
      · rw [List.getElem?_eq_none h] at hy; cases hy
    have g0 := dueC_get L2 (i * 2) (by omega)
    have g1 := dueC_get L2 (i * 2 + 1) (by omega)
    rw [← h4, List.getElem?_take_of_lt (by omega), Array.getElem?_toList] at g0 g1
    have hy2 : L2[i]! = y := by simp [hy]
    rw [show i * 2 / 2 = i by omega, show i * 2 % 2 = 0 by omega, hy2] at g0
    rw [show (i * 2 + 1) / 2 = i by omega, show (i * 2 + 1) % 2 = 1 by omega, hy2] at g1
    rw [Nat.zero_add]
    exact ⟨(hh2.cell (i * 2)).trans g0, (hh2.cell (i * 2 + 1)).trans g1⟩

set_option maxRecDepth 100000 in
set_option maxHeartbeats 1000000 in
theorem rcan_not {w : World} {p c : Nat} {A : Option Addr} {L : List KV} (h : RR w p A c L) (s : ByteArray) (hn : L.length ≤ 1000000) (hf : findV L s = -1) :
    Calls Try.prog 23 #[.pointer (some ⟨p, 0, none⟩), .string s] w fun e w' => e = .returned (.bool false) ∧ w = w' := by
  have H := Lib.hid h
  have Hf := Lib.hid hf
  clear h hf
  go_enter Try.func23, Try.ntmps23
  go_wp2_with fail
  refine (find_any H.out s hn).mono ?_
  rintro e w' ⟨rfl, rfl⟩
  rw [Hf.out]
  go_wp2_with fail
  go_ret
  exact ⟨rfl, rfl⟩

set_option maxRecDepth 100000 in
set_option maxHeartbeats 8000000 in
theorem rcan_found {w : World} {p c : Nat} {A : Option Addr} {L : List KV} (h : RR w p A c L) (s : ByteArray) (hn : L.length ≤ 100000) (i : Nat) (hi : i < L.length) (hf : findV L s = (i : Int)) :
    Calls Try.prog 23 #[.pointer (some ⟨p, 0, none⟩), .string s] w fun e w' => e = .returned (.bool true) ∧ ∃ A' c', RR w' p A' c' (L.take i ++ L.drop (i + 1)) ∧ Only (fun k => k = p) w w' ∧ RStep w A A' := by
  have H := Lib.hid h
  have Hf := Lib.hid hf
  have c0 := h.blk.cell 0
  have hfz := h.blk.frozen 0
  have hp := h.blk.lt
  have hcap := h.cap
  have hmax := h.max
  simp only [List.getElem?_toArray, List.getElem?_cons_zero] at c0
  obtain ⟨b, off, hA, hb, hbp, hc⟩ := h.row (by omega)
  subst hA
  have HC := Lib.hid hc
  unfold maxLen at hmax
  clear h hf hc
  go_enter Try.func23, Try.ntmps23
  go_wp2_with fail
  refine (find_any H.out s (by omega)).mono ?_
  rintro e w' ⟨rfl, rfl⟩
  rw [Hf.out]
  go_wp2_with fail
  generalize hn' : L.length = n at *
  have HN := Lib.hid hn'
  clear hn'
  have hi0 : (0 : Int) ≤ (i : Int) := by omega
  have hi1 : (i : Int) ≤ (c : Int) := by omega
  have hi2 : (i : Int) + 1 ≤ (n : Int) := by omega
  have hi3 : (n : Int) ≤ (c : Int) := by omega
  have hi4 : (0 : Int) ≤ (i : Int) + 1 := by omega
  have hw : IntKind.i64.wrap ((i : Int) + 1) = (i : Int) + 1 := IntWalk.i64_in _ ⟨by omega, by omega⟩
  have ht : ((i : Int) + 1).toNat = i + 1 := by omega
  by_cases hci : c = i + 1
  · have hni : n = i + 1 := by omega
    subst hni
    subst hci
    have hi5 : (i : Int) ≤ (i : Int) + 1 := by omega
    have hdue : [] ++ dueC (L.take i) ++ dueC (L.drop (i + 1)) = dueC (L.take i ++ L.drop (i + 1)) := by simp [dueC]
    have HR1 := Lib.hid (rd_take HC.out (k := i) (by rw [HN.out]; omega))
    have HR2 : Hid (Rd w (some ⟨b, off, none⟩) 0 (dueC (L.drop (i + 1)))) := by
      have hd : L.drop (i + 1) = [] := List.drop_eq_nil_of_le (by rw [HN.out]; omega)
      rw [hd]
      exact ⟨rfl, fun e => (by cases e), fun ad e j u hu => by simp [dueC] at hu⟩
    have hB0 : Below w.heap.size w ((w.alloc (.cells #[] 40)).drew) := ((Below.refl _ _).alloc (Nat.le_refl _) _).drew
    have HB0 := Lib.hid hB0
    clear hB0
    go_region_law (first
        | (refine step_app (by rfl) (.tmp 12) (.tmp 18) (by rfl) (by rfl) (.slice (some ⟨w.heap.size, 0, none⟩) 0 0) 0 [] (by rfl) (own_empty _) (some ⟨b, off, none⟩) i (i + 1) (dueC (L.take i)) (by rfl) (HR1.out.below (fun ad e => by injection e with e; rw [← e]; exact hb) HB0.out) (dueC_one _) (by omega) ?_
           intro v1 w1 hown1 hg1 hat1
           have hb1 : Below w.heap.size w w1 := HB0.out.grown hg1 (by simp) (fun k hk => by simp [Value.ownBlock] at hk; omega)
           have hc1 := (hb1.cell (p := ⟨p, 0, none⟩) hp).trans c0)
        | (refine step_app (by rfl) (.tmp 19) (.tmp 26) (by rfl) (by rfl) v1 (0 + i) ([] ++ dueC (L.take i)) (by rfl) hown1 (some ⟨b, off, none⟩) 0 0 (dueC (L.drop (i + 1))) (by rfl) (HR2.out.below (fun ad e => by injection e with e; rw [← e]; exact hb) hb1) (dueC_one _) (by omega) ?_
           intro v2 w2 hown2 hg2 hat2
           obtain ⟨A9, c9, rfl⟩ := row_slice2 hown2
           have hk1 : ∀ k, v1.ownBlock = some k → w.heap.size ≤ k := fun k hk => by
             rcases hat1 with e | e
             · rw [e] at hk; simp [Value.ownBlock] at hk; omega
             · rw [e] at hk; simp at hk; omega
           have hk2 : ∀ k, (Value.slice A9 (0 + i + 0) c9).ownBlock = some k → w.heap.size ≤ k := fun k hk => (by
             rcases hat2 with e | e
             · exact hk1 k (by rw [← e]; exact hk)
             · rw [e] at hk; injection hk with hk; have := hb1.size; omega)
           have hb2 : Below w.heap.size w w2 := hb1.grown hg2 hb1.size hk1
           have hc2 := (hb2.cell (p := ⟨p, 0, none⟩) hp).trans c0
           have hf2 := (hb2.frozen (p := ⟨p, 0, none⟩) hp).trans hfz))
    all_goals go_wp2_with fail
    all_goals go_ret
    all_goals
      have hl : (L.take i ++ L.drop (i + 1)).length = i + 0 := by rw [List.length_append, List.length_take, List.length_drop, HN.out]; omega
      obtain ⟨q1, q2, q3⟩ := rr_of_own (L2 := L.take i ++ L.drop (i + 1)) H.out.blk hb2 hl (by rw [hdue] at hown2; simpa using hown2) (by simpa using hk2)
      exact ⟨rfl, A9, c9, q1, q2, fun ad' e => .inl (q3 ad' e)⟩
  · have hdue : [] ++ dueC (L.take i) ++ dueC (L.drop (i + 1)) = dueC (L.take i ++ L.drop (i + 1)) := by simp [dueC]
    have HR1 := Lib.hid (rd_take HC.out (k := i) (by rw [HN.out]; omega))
    have HR2 := Lib.hid (rd_drop HC.out (i + 1))
    rw [HN.out] at HR2
    have hB0 : Below w.heap.size w ((w.alloc (.cells #[] 40)).drew) := ((Below.refl _ _).alloc (Nat.le_refl _) _).drew
    have HB0 := Lib.hid hB0
    clear hB0
    go_region_law (first
        | (refine step_app (by rfl) (.tmp 12) (.tmp 18) (by rfl) (by rfl) (.slice (some ⟨w.heap.size, 0, none⟩) 0 0) 0 [] (by rfl) (own_empty _) (some ⟨b, off, none⟩) i c (dueC (L.take i)) (by rfl) (HR1.out.below (fun ad e => by injection e with e; rw [← e]; exact hb) HB0.out) (dueC_one _) (by omega) ?_
           intro v1 w1 hown1 hg1 hat1
           have hb1 : Below w.heap.size w w1 := HB0.out.grown hg1 (by simp) (fun k hk => by simp [Value.ownBlock] at hk; omega)
           have hc1 := (hb1.cell (p := ⟨p, 0, none⟩) hp).trans c0)
        | (refine step_app (by rfl) (.tmp 19) (.tmp 26) (by rfl) (by rfl) v1 (0 + i) ([] ++ dueC (L.take i)) (by rfl) hown1 (some ⟨b, off + (i + 1) * 2, none⟩) (n - (i + 1)) (c - (i + 1)) (dueC (L.drop (i + 1))) (by rfl) (HR2.out.below (fun ad e => by injection e with e; rw [← e]; exact hb) hb1) (dueC_one _) (by omega) ?_
           intro v2 w2 hown2 hg2 hat2
           obtain ⟨A9, c9, rfl⟩ := row_slice2 hown2
           have hk1 : ∀ k, v1.ownBlock = some k → w.heap.size ≤ k := fun k hk => by
             rcases hat1 with e | e
             · rw [e] at hk; simp [Value.ownBlock] at hk; omega
             · rw [e] at hk; simp at hk; omega
           have hk2 : ∀ k, (Value.slice A9 (0 + i + (n - (i + 1))) c9).ownBlock = some k → w.heap.size ≤ k := fun k hk => (by
             rcases hat2 with e | e
             · exact hk1 k (by rw [← e]; exact hk)
             · rw [e] at hk; injection hk with hk; have := hb1.size; omega)
           have hb2 : Below w.heap.size w w2 := hb1.grown hg2 hb1.size hk1
           have hc2 := (hb2.cell (p := ⟨p, 0, none⟩) hp).trans c0
           have hf2 := (hb2.frozen (p := ⟨p, 0, none⟩) hp).trans hfz))
    all_goals go_wp2_with fail
    all_goals go_ret
    all_goals
      have hl : (L.take i ++ L.drop (i + 1)).length = i + (n - (i + 1)) := by rw [List.length_append, List.length_take, List.length_drop, HN.out]; omega
      obtain ⟨q1, q2, q3⟩ := rr_of_own (L2 := L.take i ++ L.drop (i + 1)) H.out.blk hb2 hl (by rw [hdue] at hown2; simpa using hown2) (by simpa using hk2)
      exact ⟨rfl, A9, c9, q1, q2, fun ad' e => .inl (q3 ad' e)⟩
end Go.Proofs.Ytannmemocaibiaa
