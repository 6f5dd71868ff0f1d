/-
  Plain facts on the order of timers, and on heaps kept in lists. No program is walked here.
-/
import Derived.Test.YtannmemocaibiaaFix
namespace Go.Proofs.Ytannmemocaibiaa

theorem bl_irrefl : ∀ x : List UInt8, Op.bytesLess x x = false
  | [] => rfl
  | a :: x => by simp [Op.bytesLess, bl_irrefl x]
theorem bl_trans : ∀ {x y z : List UInt8}, Op.bytesLess x y = true → Op.bytesLess y z = true → Op.bytesLess x z = true
  | _, [], _, h, _ => by simp [Op.bytesLess] at h
  | _, _ :: _, [], _, h => by simp [Op.bytesLess] at h
  | [], _ :: _, _ :: _, _, _ => rfl
  | a :: x, b :: y, c :: z, h1, h2 => by
    simp only [Op.bytesLess, Bool.or_eq_true, decide_eq_true_eq, Bool.and_eq_true, beq_iff_eq] at h1 h2 ⊢
    rcases h1 with h1 | ⟨rfl, h1⟩
    · rcases h2 with h2 | ⟨rfl, h2⟩
      · exact .inl (UInt8.lt_trans h1 h2)
      · exact .inl h1
    · rcases h2 with h2 | ⟨rfl, h2⟩
      · exact .inl h2
      · exact .inr ⟨rfl, bl_trans h1 h2⟩
theorem bl_total : ∀ {x y : List UInt8}, Op.bytesLess x y = false → Op.bytesLess y x = false → x = y
  | [], [], _, _ => rfl
  | [], _ :: _, h, _ => by simp [Op.bytesLess] at h
  | _ :: _, [], _, h => by simp [Op.bytesLess] at h
  | a :: x, b :: y, h1, h2 => by
    simp only [Op.bytesLess, Bool.or_eq_false_iff, decide_eq_false_iff_not, Bool.and_eq_false_imp, beq_iff_eq] at h1 h2
    have hab : a = b := by
      have g1 := h1.1; have g2 := h2.1
      exact UInt8.le_antisymm (UInt8.not_lt.1 g2) (UInt8.not_lt.1 g1)
    subst hab
    rw [bl_total (h1.2 rfl) (h2.2 rfl)]
theorem bl_asymm {x y : List UInt8} (h : Op.bytesLess x y = true) : Op.bytesLess y x = false := by
  cases h2 : Op.bytesLess y x with
  | false => rfl
  | true => have := bl_trans h h2; rw [bl_irrefl] at this; cases this

/-- Which comes first, of two (name, time). -/
def lt2 (a b : ByteArray × Int) : Prop := a.2 < b.2 ∨ a.2 = b.2 ∧ Op.bytesLess a.1.toList b.1.toList = true
theorem lt2_irrefl (a : ByteArray × Int) : ¬ lt2 a a := by
  rintro (h | ⟨_, h⟩)
  · omega
  · rw [bl_irrefl] at h; cases h
theorem lt2_trans {a b c : ByteArray × Int} (h1 : lt2 a b) (h2 : lt2 b c) : lt2 a c := by
  rcases h1 with h1 | ⟨e1, h1⟩
  · rcases h2 with h2 | ⟨e2, h2⟩
    · exact .inl (by omega)
    · exact .inl (by omega)
  · rcases h2 with h2 | ⟨e2, h2⟩
    · exact .inl (by omega)
    · exact .inr ⟨by omega, bl_trans h1 h2⟩
theorem lt2_total {a b : ByteArray × Int} (h1 : ¬ lt2 a b) (h2 : ¬ lt2 b a) : a = b := by
  unfold lt2 at h1 h2
  have e : a.2 = b.2 := by
    have g1 : ¬ a.2 < b.2 := fun h => h1 (.inl h)
    have g2 : ¬ b.2 < a.2 := fun h => h2 (.inl h)
    omega
  have n1 : Op.bytesLess a.1.toList b.1.toList = false := by
    cases h : Op.bytesLess a.1.toList b.1.toList with
    | false => rfl
    | true => exact absurd (.inr ⟨e, h⟩) h1
  have n2 : Op.bytesLess b.1.toList a.1.toList = false := by
    cases h : Op.bytesLess b.1.toList a.1.toList with
    | false => rfl
    | true => exact absurd (.inr ⟨e.symm, h⟩) h2
  have := bytes_ext (bl_total n1 n2)
  exact Prod.ext this e
theorem lt2_asymm {a b : ByteArray × Int} (h : lt2 a b) : ¬ lt2 b a := fun h2 => lt2_irrefl a (lt2_trans h h2)
/-- not after. -/
def le2 (a b : ByteArray × Int) : Prop := ¬ lt2 b a
theorem le2_refl (a : ByteArray × Int) : le2 a a := lt2_irrefl a
theorem le2_trans {a b c : ByteArray × Int} (h1 : le2 a b) (h2 : le2 b c) : le2 a c := by
  intro h
  by_cases hab : lt2 a b
  · exact h2 (lt2_trans h hab)
  · have := lt2_total hab h1
    subst this
    exact h2 h
theorem le2_of_lt {a b : ByteArray × Int} (h : lt2 a b) : le2 a b := lt2_asymm h
theorem le2_antisymm {a b : ByteArray × Int} (h1 : le2 a b) (h2 : le2 b a) : a = b := lt2_total h2 h1

theorem cmpD_neg (a b : ByteArray × Int) : cmpD a b < 0 ↔ lt2 a b := by
  obtain ⟨s, x⟩ := a
  obtain ⟨t, y⟩ := b
  unfold cmpD orI cmpI lt2
  simp only
  by_cases h1 : x < y
  · rw [if_pos h1, if_neg (by omega)]; simp [h1]
  · rw [if_neg h1]
    by_cases h2 : y < x
    · rw [if_pos h2, if_neg (by omega)]
      constructor
      · intro h; omega
      · rintro (h | ⟨h, _⟩) <;> omega
    · rw [if_neg h2, if_pos rfl]
      have e : x = y := by omega
      unfold cmpS
      cases hb : Op.bytesLess s.toList t.toList with
      | true => simp [e]
      | false =>
        simp only [Bool.false_eq_true, if_false, and_false, or_false]
        split
        · constructor <;> intro h <;> omega
        · constructor <;> intro h <;> omega

def Row.kv (r : Row) : ByteArray × Int := (r.name, r.tm)
theorem lessR_iff (a b : Row) : lessR a b = true ↔ lt2 a.kv b.kv := by
  unfold lessR Row.kv
  rw [decide_eq_true_iff, cmpD_neg]
theorem lessR_false (a b : Row) : lessR a b = false ↔ le2 b.kv a.kv := by
  unfold le2
  rw [← lessR_iff]
  cases lessR a b <;> simp

/-- the i-th of a list. -/
def gt (l : List Row) (i : Nat) : ByteArray × Int := (l.getD i default).kv
theorem lessL_true (l : List Row) (i j : Nat) : lessL l i j = true ↔ lt2 (gt l i) (gt l j) := lessR_iff _ _
theorem lessL_false (l : List Row) (i j : Nat) : lessL l i j = false ↔ le2 (gt l j) (gt l i) := lessR_false _ _
theorem gt_swap (l : List Row) {i j : Nat} (hi : i < l.length) (hj : j < l.length) (k : Nat) : gt (swapL l i j) k = if k = j then gt l i else if k = i then gt l j else gt l k := by
  unfold gt
  rw [List.getD_eq_getElem?_getD, swapL_get l hi hj]
  by_cases h1 : k = j
  · rw [if_pos h1, if_pos h1]; rfl
  · rw [if_neg h1, if_neg h1]
    by_cases h2 : k = i
    · rw [if_pos h2, if_pos h2]; rfl
    · rw [if_neg h2, if_neg h2]; rfl

/-- The first n of a list are a heap. -/
def HeapN (l : List Row) (n : Nat) : Prop := ∀ c, 0 < c → c < n → le2 (gt l ((c - 1) / 2)) (gt l c)

/-- A heap but that the one at j may come before its parent. -/
def UpInv (l : List Row) (j n : Nat) : Prop :=
  (∀ c, 0 < c → c < n → c ≠ j → le2 (gt l ((c - 1) / 2)) (gt l c)) ∧ (∀ c, 0 < c → c < n → (c - 1) / 2 = j → 0 < j → le2 (gt l ((j - 1) / 2)) (gt l c))

theorem up_heap : ∀ (f : Nat) (l : List Row) (j n : Nat), j ≤ f → n ≤ l.length → j < n → UpInv l j n → HeapN (upF f l j) n
  | 0, l, j, n, hf, _, _, h => by
    intro c h0 hc
    exact h.1 c h0 hc (by omega)
  | f + 1, l, j, n, hf, hn, hj, h => by
    simp only [upF]
    split
    · rename_i h0
      intro c h0 hc
      exact h.1 c h0 hc (by omega)
    · rename_i h0
      split
      · rename_i hl
        rw [lessL_true] at hl
        refine up_heap f _ _ n (by omega) (by rw [swapL_length]; exact hn) (by omega) ?_
        have hp : (j - 1) / 2 < l.length := by omega
        have hjl : j < l.length := by omega
        refine ⟨fun c c0 cn cp => ?_, fun c c0 cn cp p0 => ?_⟩
        · rw [gt_swap l hp hjl, gt_swap l hp hjl]
          by_cases hcj : c = j
          · subst hcj
            rw [if_neg (by omega), if_pos rfl, if_pos rfl]
            exact le2_of_lt hl
          · rw [if_neg hcj, if_neg cp]
            by_cases h1 : (c - 1) / 2 = j
            · rw [if_pos h1]
              exact h.2 c c0 cn h1 (by omega)
            · rw [if_neg h1]
              by_cases h2 : (c - 1) / 2 = (j - 1) / 2
              · rw [if_pos h2]
                have := h.1 c c0 cn hcj
                rw [h2] at this
                exact le2_trans (le2_of_lt hl) this
              · rw [if_neg h2]
                exact h.1 c c0 cn hcj
        · rw [gt_swap l hp hjl, gt_swap l hp hjl]
          rw [if_neg (by omega), if_neg (by omega)]
          have hpp := h.1 ((j - 1) / 2) p0 (by omega) (by omega)
          by_cases hcj : c = j
          · subst hcj
            rw [if_pos rfl]
            exact hpp
          · rw [if_neg hcj, if_neg (by omega)]
            have := h.1 c c0 cn hcj
            rw [cp] at this
            exact le2_trans hpp this
      · rename_i hl
        have hl' : lessL l j ((j - 1) / 2) = false := by simpa using hl
        rw [lessL_false] at hl'
        intro c c0 cn
        by_cases hcj : c = j
        · subst hcj; exact hl'
        · exact h.1 c c0 cn hcj

/-- A heap but that the one at i may come behind its children. -/
def DownInv (l : List Row) (i n : Nat) : Prop :=
  (∀ c, 0 < c → c < n → (c - 1) / 2 ≠ i → le2 (gt l ((c - 1) / 2)) (gt l c)) ∧ (∀ c, 0 < c → c < n → (c - 1) / 2 = i → 0 < i → le2 (gt l ((i - 1) / 2)) (gt l c))

theorem kid_kids {l : List Row} {i n : Nat} (_h : 2 * i + 1 < n) : ∀ c, 0 < c → c < n → (c - 1) / 2 = i → le2 (gt l (kid l i n)) (gt l c) := by
  intro c c0 cn cp
  have hc : c = 2 * i + 1 ∨ c = 2 * i + 2 := by omega
  unfold kid
  split
  · rename_i h1
    simp only [Bool.and_eq_true, decide_eq_true_eq] at h1
    have h2 := (lessL_true _ _ _).1 h1.2
    rcases hc with rfl | rfl
    · exact le2_of_lt h2
    · exact le2_refl _
  · rename_i h1
    rcases hc with rfl | rfl
    · exact le2_refl _
    · have : lessL l (2 * i + 2) (2 * i + 1) = false := by
        cases hh : lessL l (2 * i + 2) (2 * i + 1) with
        | false => rfl
        | true => exact absurd (by simp [hh, cn]) h1
      exact (lessL_false _ _ _).1 this

/-- One step down, from a heap but for i. -/
theorem down_step {l : List Row} {i n : Nat} (hn : n ≤ l.length) (hk : 2 * i + 1 < n) (hl : lt2 (gt l (kid l i n)) (gt l i))
    (h1 : ∀ c, 0 < c → c < n → c ≠ i → (c - 1) / 2 ≠ i → le2 (gt l ((c - 1) / 2)) (gt l c)) (h2 : ∀ c, 0 < c → c < n → (c - 1) / 2 = i → 0 < i → le2 (gt l ((i - 1) / 2)) (gt l c)) :
    DownInv (swapL l i (kid l i n)) (kid l i n) n := by
  have hkk := kid_kids (l := l) hk
  have hkl := kid_lt (l := l) hk
  have hkp : (kid l i n - 1) / 2 = i := by unfold kid; split <;> omega
  generalize kid l i n = k at *
  have hil : i < l.length := by omega
  have hkl' : k < l.length := by omega
  refine ⟨fun c c0 cn cp => ?_, fun c c0 cn cp k0 => ?_⟩
  · rw [gt_swap l hil hkl', gt_swap l hil hkl']
    rw [if_neg cp]
    by_cases hck : c = k
    · subst hck
      rw [if_pos hkp, if_pos rfl]
      exact le2_of_lt hl
    · rw [if_neg hck]
      by_cases hci : c = i
      · subst hci
        rw [if_neg (by omega), if_pos rfl]
        exact h2 k (by omega) hkl.1 hkp c0
      · rw [if_neg hci]
        by_cases hcp : (c - 1) / 2 = i
        · rw [if_pos hcp]; exact hkk c c0 cn hcp
        · rw [if_neg hcp]; exact h1 c c0 cn hci hcp
  · rw [gt_swap l hil hkl', gt_swap l hil hkl']
    rw [if_neg (by omega), if_pos hkp, if_neg (by omega), if_neg (by omega)]
    have := h1 c c0 cn (by omega) (by omega)
    rw [cp] at this
    exact this

theorem down_heap : ∀ (f : Nat) (l : List Row) (i n : Nat), n - i ≤ f → n ≤ l.length → DownInv l i n → HeapN (downF f l i n).1 n
  | 0, l, i, n, hf, _, h => by
    intro c c0 cn
    exact h.1 c c0 cn (by omega)
  | f + 1, l, i, n, hf, hn, h => by
    simp only [downF]
    split
    · intro c c0 cn
      exact h.1 c c0 cn (by omega)
    · rename_i hk
      have hkl := kid_lt (l := l) (i := i) (n := n) (by omega)
      split
      · rename_i hl
        exact down_heap f _ _ n (by omega) (by rw [swapL_length]; exact hn) (down_step hn (by omega) ((lessL_true _ _ _).1 hl) (fun c c0 cn _ => h.1 c c0 cn) h.2)
      · rename_i hl
        have hl' : lessL l (kid l i n) i = false := by simpa using hl
        rw [lessL_false] at hl'
        intro c c0 cn
        by_cases hcp : (c - 1) / 2 = i
        · rw [hcp]; exact le2_trans hl' (kid_kids (by omega) c c0 cn hcp)
        · exact h.1 c c0 cn hcp

theorem downF_ge : ∀ (f : Nat) (l : List Row) (i n : Nat), i ≤ (downF f l i n).2
  | 0, _, _, _ => Nat.le_refl _
  | f + 1, l, i, n => by
    simp only [downF]
    split
    · exact Nat.le_refl _
    · have hkl := kid_lt (l := l) (i := i) (n := n) (by omega)
      split
      · exact Nat.le_trans (Nat.le_of_lt hkl.2) (downF_ge f _ _ _)
      · exact Nat.le_refl _

/-- heap.Fix mends a heap in which one has changed. -/
theorem fix_heap (l : List Row) (i n : Nat) (hn : n ≤ l.length) (hi : i < n)
    (h1 : ∀ c, 0 < c → c < n → c ≠ i → (c - 1) / 2 ≠ i → le2 (gt l ((c - 1) / 2)) (gt l c)) (h2 : ∀ c, 0 < c → c < n → (c - 1) / 2 = i → 0 < i → le2 (gt l ((i - 1) / 2)) (gt l c)) :
    HeapN (fixL l i n) n := by
  unfold fixL
  rw [downL_eq]
  by_cases hk : n ≤ 2 * i + 1
  · rw [if_pos hk]
    rw [if_neg (Nat.lt_irrefl i)]
    refine up_heap i l i n (Nat.le_refl _) hn hi ⟨fun c c0 cn ci => h1 c c0 cn ci (by omega), fun c c0 cn cp i0 => h2 c c0 cn cp i0⟩
  · rw [if_neg hk]
    have hkl := kid_lt (l := l) (i := i) (n := n) (by omega)
    split
    · rename_i hl
      have hd := down_step hn (by omega) ((lessL_true _ _ _).1 hl) h1 h2
      have hge := downF_ge n (swapL l i (kid l i n)) (kid l i n) n
      rw [if_pos (by unfold downL; omega)]
      exact down_heap n _ _ n (by omega) (by rw [swapL_length]; exact hn) hd
    · rename_i hl
      have hl' : lessL l (kid l i n) i = false := by simpa using hl
      rw [lessL_false] at hl'
      rw [if_neg (Nat.lt_irrefl i)]
      refine up_heap i l i n (Nat.le_refl _) hn hi ⟨fun c c0 cn ci => ?_, h2⟩
      by_cases hcp : (c - 1) / 2 = i
      · rw [hcp]; exact le2_trans hl' (kid_kids (by omega) c c0 cn hcp)
      · exact h1 c c0 cn ci hcp

theorem swapL_perm (l : List Row) {i j : Nat} (hi : i < l.length) (hj : j < l.length) : (swapL l i j).Perm l := by
  have := @List.set_set_perm _ l i j hi hj
  simpa [swapL, hi, hj] using this
theorem upF_perm : ∀ (f : Nat) (l : List Row) (j : Nat), j < l.length → (upF f l j).Perm l
  | 0, _, _, _ => List.Perm.refl _
  | f + 1, l, j, hj => by
    simp only [upF]
    split
    · exact List.Perm.refl _
    · split
      · exact (upF_perm f _ _ (by rw [swapL_length]; omega)).trans (swapL_perm l (by omega) hj)
      · exact List.Perm.refl _
theorem downF_perm : ∀ (f : Nat) (l : List Row) (i n : Nat), n ≤ l.length → (downF f l i n).1.Perm l
  | 0, _, _, _, _ => List.Perm.refl _
  | f + 1, l, i, n, hn => by
    simp only [downF]
    split
    · exact List.Perm.refl _
    · have hkl := kid_lt (l := l) (i := i) (n := n) (by omega)
      split
      · exact (downF_perm f _ _ _ (by rw [swapL_length]; exact hn)).trans (swapL_perm l (by omega) (by omega))
      · exact List.Perm.refl _
theorem upL_perm (l : List Row) (j : Nat) (hj : j < l.length) : (upL l j).Perm l := upF_perm _ _ _ hj
theorem fixL_perm (l : List Row) (i n : Nat) (hi : i < l.length) (hn : n ≤ l.length) : (fixL l i n).Perm l := by
  unfold fixL
  split
  · exact downF_perm _ _ _ _ hn
  · exact (upL_perm _ _ (by rw [downL_length]; exact hi)).trans (downF_perm _ _ _ _ hn)
theorem upF_tail : ∀ (f : Nat) (l : List Row) (j : Nat), j < l.length → ∀ k, j < k → (upF f l j)[k]? = l[k]?
  | 0, _, _, _, _, _ => rfl
  | f + 1, l, j, hj, k, hk => by
    simp only [upF]
    split
    · rfl
    · split
      · rw [upF_tail f _ _ (by rw [swapL_length]; omega) k (by omega), swapL_get l (by omega) hj, if_neg (by omega), if_neg (by omega)]
      · rfl
theorem downF_tail : ∀ (f : Nat) (l : List Row) (i n : Nat), n ≤ l.length → ∀ k, n ≤ k → (downF f l i n).1[k]? = l[k]?
  | 0, _, _, _, _, _, _ => rfl
  | f + 1, l, i, n, hn, k, hk => by
    simp only [downF]
    split
    · rfl
    · have hkl := kid_lt (l := l) (i := i) (n := n) (by omega)
      split
      · rw [downF_tail f _ _ _ (by rw [swapL_length]; exact hn) k hk, swapL_get l (by omega) (by omega), if_neg (by omega), if_neg (by omega)]
      · rfl
theorem fixL_tail (l : List Row) (i n : Nat) (hi : i < n) (hn : n ≤ l.length) (k : Nat) (hk : n ≤ k) : (fixL l i n)[k]? = l[k]? := by
  unfold fixL
  split
  · exact downF_tail _ _ _ _ hn k hk
  · unfold upL
    rw [upF_tail _ _ _ (by rw [downL_length]; omega) k (by omega)]
    exact downF_tail _ _ _ _ hn k hk

theorem getD_of {l : List Row} {i : Nat} {r : Row} (h : l[i]? = some r) : l.getD i default = r := by simp [h]

/-- What heap.Remove leaves, and what it takes. -/
theorem removeL_perm (rows : List Row) (i : Nat) {r : Row} (hr : rows[i]? = some r) : rows.Perm (removeL rows i ++ [r]) := by
  have hi : i < rows.length := (List.getElem?_eq_some_iff.1 hr).1
  unfold removeL
  by_cases hn : rows.length - 1 = i
  · rw [if_pos hn]
    have hne : rows ≠ [] := by intro e; rw [e] at hi; simp at hi
    have : rows.getLast hne = r := by
      rw [List.getLast_eq_getElem]
      have := List.getElem?_eq_some_iff.1 hr
      obtain ⟨_, h2⟩ := this
      rw [← h2]
      congr 1
    rw [← this, List.dropLast_concat_getLast]
  · rw [if_neg hn]
    generalize hL : swapL rows i (rows.length - 1) = L
    have hLl : L.length = rows.length := by rw [← hL, swapL_length]
    have hp : (fixL L i (rows.length - 1)).Perm rows := (fixL_perm L i _ (by omega) (by omega)).trans (by rw [← hL]; exact swapL_perm rows hi (by omega))
    have hlen := fixL_length L i (rows.length - 1)
    have ht := fixL_tail L i (rows.length - 1) (by omega) (by omega) (rows.length - 1) (Nat.le_refl _)
    have hL2 : L[rows.length - 1]? = some r := by rw [← hL, swapL_get rows hi (by omega), if_pos rfl, getD_of hr]
    rw [hL2] at ht
    have hne : fixL L i (rows.length - 1) ≠ [] := by intro e; rw [e] at hlen; simp at hlen; omega
    have hlast : (fixL L i (rows.length - 1)).getLast hne = r := by
      rw [List.getLast_eq_getElem]
      obtain ⟨_, h2⟩ := List.getElem?_eq_some_iff.1 ht
      rw [← h2]
      congr 1
      omega
    rw [← hlast, List.dropLast_concat_getLast]
    exact hp.symm

theorem gt_dropLast (l : List Row) (k : Nat) (hk : k < l.length - 1) : gt l.dropLast k = gt l k := by
  unfold gt
  rw [List.getD_eq_getElem?_getD, List.getD_eq_getElem?_getD, List.getElem?_dropLast, if_pos hk]

theorem heap_dropLast {l : List Row} {n : Nat} (h : HeapN l n) (hn : n ≤ l.length - 1) : HeapN l.dropLast n := by
  intro c c0 cn
  rw [gt_dropLast _ _ (by omega), gt_dropLast _ _ (by omega)]
  exact h c c0 cn

theorem remove_heap (rows : List Row) (i : Nat) (hi : i < rows.length) (h : HeapN rows rows.length) : HeapN (removeL rows i) (removeL rows i).length := by
  rw [removeL_length]
  unfold removeL
  by_cases hn : rows.length - 1 = i
  · rw [if_pos hn]
    exact heap_dropLast (fun c c0 cn => h c c0 (by omega)) (Nat.le_refl _)
  · rw [if_neg hn]
    generalize hL : swapL rows i (rows.length - 1) = L
    have hLl : L.length = rows.length := by rw [← hL, swapL_length]
    have hg : ∀ k, k < rows.length - 1 → k ≠ i → gt L k = gt rows k := fun k hk hki => by
      rw [← hL, gt_swap rows hi (by omega), if_neg (by omega), if_neg hki]
    refine heap_dropLast (fix_heap L i (rows.length - 1) (by omega) (by omega) (fun c c0 cn ci cp => ?_) (fun c c0 cn cp i0 => ?_)) (by rw [fixL_length]; omega)
    · rw [hg _ (by omega) cp, hg _ cn ci]
      exact h c c0 (by omega)
    · rw [hg _ (by omega) (by omega), hg _ cn (by omega)]
      have h1 := h c c0 (by omega)
      have h2 := h i i0 hi
      rw [cp] at h1
      exact le2_trans h2 h1

theorem gt_append (l : List Row) (r : Row) (k : Nat) (hk : k < l.length) : gt (l ++ [r]) k = gt l k := by
  unfold gt
  rw [List.getD_eq_getElem?_getD, List.getD_eq_getElem?_getD, List.getElem?_append_left hk]
theorem push_heap (rows : List Row) (r : Row) (h : HeapN rows rows.length) : HeapN (upL (rows ++ [r]) rows.length) (rows.length + 1) := by
  refine up_heap _ _ _ _ (Nat.le_refl _) (by simp) (by omega) ⟨fun c c0 cn cj => ?_, fun c c0 cn cp j0 => by omega⟩
  rw [gt_append _ _ _ (by omega), gt_append _ _ _ (by omega)]
  exact h c c0 (by omega)
theorem set_heap (rows : List Row) (i : Nat) (r : Row) (hi : i < rows.length) (h : HeapN rows rows.length) : HeapN (fixL (rows.set i r) i rows.length) rows.length := by
  have hg : ∀ k, k ≠ i → gt (rows.set i r) k = gt rows k := fun k hk => by
    unfold gt
    rw [List.getD_eq_getElem?_getD, List.getD_eq_getElem?_getD, List.getElem?_set, if_neg (Ne.symm hk)]
  refine fix_heap _ i _ (by simp) hi (fun c c0 cn ci cp => ?_) (fun c c0 cn cp i0 => ?_)
  · rw [hg _ cp, hg _ ci]; exact h c c0 cn
  · rw [hg _ (by omega), hg _ (by omega)]
    have h1 := h c c0 cn
    have h2 := h i i0 hi
    rw [cp] at h1
    exact le2_trans h2 h1

/-- The first of a heap comes first. -/
theorem heap_root {l : List Row} {n : Nat} (h : HeapN l n) : ∀ k, k < n → le2 (gt l 0) (gt l k) := by
  intro k
  induction k using Nat.strongRecOn with
  | _ k ih =>
    intro hk
    by_cases h0 : k = 0
    · subst h0; exact le2_refl _
    · exact le2_trans (ih ((k - 1) / 2) (by omega) (by omega)) (h k (by omega) hk)
end Go.Proofs.Ytannmemocaibiaa
