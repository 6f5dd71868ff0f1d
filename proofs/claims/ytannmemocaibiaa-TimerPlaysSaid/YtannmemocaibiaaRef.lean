/-
  The document's Queue: its reading walks.
-/
import Derived.Test.YtannmemocaibiaaCopy
namespace Go.Proofs.Ytannmemocaibiaa
open Go.RowKit

/-- The document's queue in memory: block p, one slice value; its row lies elsewhere. -/
structure RR (w : World) (p : Nat) (A : Option Addr) (c : Nat) (L : List KV) : Prop where
  blk : Blk w p 52 #[.slice A L.length c]
  cap : L.length ≤ c
  max : c ≤ maxLen
  row : 0 < L.length → ∃ b off, A = some ⟨b, off, none⟩ ∧ b < w.heap.size ∧ b ≠ p ∧ ∀ (i : Nat) (x : KV), L[i]? = some x → w.cell? ⟨b, off + i * 2, none⟩ = some (.string x.1) ∧ w.cell? ⟨b, off + i * 2 + 1, none⟩ = some (.int .i64 x.2)

/-- The first place of a name. -/
def findI (L : List KV) (s : ByteArray) : Option Nat := L.findIdx? (fun x => x.1 == s)
def findV (L : List KV) (s : ByteArray) : Int := match findI L s with | some i => (i : Int) | none => -1

theorem findI_take {L : List KV} {s : ByteArray} {k : Nat} {x : KV} (h0 : ∀ y ∈ L.take k, y.1 ≠ s) (hx : L[k]? = some x) (he : x.1 = s) : findV L s = (k : Int) := by
  have hk : k < L.length := by
    rcases Nat.lt_or_ge k L.length with h | h
    · exact h
    · rw [List.getElem?_eq_none h] at hx; cases hx
  have : findI L s = some k := by
    unfold findI
    rw [List.findIdx?_eq_some_iff_getElem]
    refine ⟨hk, ?_, ?_⟩
    · rw [List.getElem?_eq_getElem hk] at hx
      rw [Option.some.inj hx, he]
      simp
    · intro j hj
      have := h0 (L[j]'(by omega)) (List.mem_take_iff_getElem.2 ⟨j, by omega, rfl⟩)
      simpa using this
  rw [findV, this]
theorem findI_none {L : List KV} {s : ByteArray} (h0 : ∀ y ∈ L, y.1 ≠ s) : findV L s = -1 := by
  have : findI L s = none := by
    unfold findI
    rw [List.findIdx?_eq_none_iff]
    intro y hy
    simpa using h0 y hy
  rw [findV, this]

set_option maxRecDepth 100000 in
set_option maxHeartbeats 1000000 in
theorem find_any {w : World} {p c : Nat} {A : Option Addr} {L : List KV} (h : RR w p A c L) (s : ByteArray) (hn : L.length ≤ 1000000) :
    Calls Try.prog 26 #[.pointer (some ⟨p, 0, none⟩), .string s] w fun e w' => e = .returned (.int .i64 (findV L s)) ∧ w = w' := by
  have H := Lib.hid h
  have c0 := h.blk.cell 0
  simp only [List.getElem?_toArray, List.getElem?_cons_zero] at c0
  clear h
  go_enter Try.func26, Try.ntmps26
  go_wp2_with fail
  go_loopw [5] (fun vi wr => ∃ (k : Nat), k ≤ L.length ∧ vi = .int .i64 k ∧ w = wr ∧ ∀ y ∈ L.take k, y.1 ≠ s)
    (fun vi _ => L.length - (intOf vi).toNat)
  case atStart => exact ⟨0, Nat.zero_le _, rfl, rfl, fun y hy => by simp at hy⟩
  case round =>
    obtain ⟨k, hk, rfl, rfl, h0⟩ := hrel
    have H0 := Lib.hid h0
    clear h0
    by_cases hkn : k < L.length
    · obtain ⟨b, off, hA, _, _, hc⟩ := H.out.row (by omega)
      subst hA
      obtain ⟨x, hx⟩ : ∃ x, L[k]? = some x := ⟨L[k], List.getElem?_eq_getElem hkn⟩
      obtain ⟨e0, e1⟩ := hc k x hx
      have Hx := Lib.hid hx
      clear hx hc e1
      obtain ⟨t, a⟩ := x
      dsimp only at e0
      cases hb : (t.toList == s.toList)
      · go_wp2_with fail
        refine ⟨⟨k + 1, by omega, by go_num, trivial, ?_⟩, by simp [intOf]; omega⟩
        intro y hy
        rw [List.take_add_one, Hx.out] at hy
        rw [List.mem_append] at hy
        rcases hy with hy | hy
        · exact H0.out y hy
        · simp at hy
          subst hy
          intro e
          dsimp only at e
          rw [e] at hb
          simp at hb
      · have hf := findI_take H0.out Hx.out (bytes_ext (by simpa using hb))
        have Hf := Lib.hid hf
        clear hf
        go_wp2_with fail
        go_ret
        exact ⟨by rw [Hf.out]; rfl, rfl⟩
    · have hke : k = L.length := by omega
      subst hke
      have hf := findI_none (L := L) (s := s) (by have := H0.out; rwa [List.take_length] at this)
      have Hf := Lib.hid hf
      clear hf
      go_wp2_with fail
      go_ret
      exact ⟨by rw [Hf.out]; rfl, rfl⟩

set_option maxRecDepth 100000 in
set_option maxHeartbeats 1000000 in
theorem ahead_any (x y : KV) (w : World) :
    Calls Try.prog 32 #[.agg #[.string x.1, .int .i64 x.2], .agg #[.string y.1, .int .i64 y.2]] w fun e w' => e = .returned (.bool (ltB x y)) ∧ Below w.heap.size w w' := by
  obtain ⟨s, a⟩ := x
  obtain ⟨t, b⟩ := y
  dsimp only
  have hbel : Below w.heap.size w ((w.alloc (.cells #[.string s, .int .i64 a] 40)).alloc (.cells #[.string t, .int .i64 b] 40)) := ((Below.refl _ _).alloc (Nat.le_refl _) _).alloc (by simp) _
  have HB := Lib.hid hbel
  clear hbel
  by_cases h1 : a < b
  · have hl : ltB (s, a) (t, b) = true := by simp [ltB, h1]
    have hb1 : decide (a < b) = true := decide_eq_true h1
    rw [hl]
    clear hl
    go_enter Try.func32, Try.ntmps32
    go_wp2_with fail
    go_ret
    exact ⟨rfl, HB.out⟩
  · have hb1 : decide (a < b) = false := decide_eq_false h1
    by_cases h2 : a = b
    · subst h2
      have hl : ltB (s, a) (t, a) = Op.bytesLess s.toList t.toList := by simp [ltB]
      rw [hl]
      clear hl
      go_enter Try.func32, Try.ntmps32
      go_wp2_with fail
      go_ret
      exact ⟨rfl, HB.out⟩
    · have hl : ltB (s, a) (t, b) = false := by simp [ltB, h1, h2]
      have hb2 : (a == b) = false := by simpa using h2
      rw [hl]
      clear hl
      go_enter Try.func32, Try.ntmps32
      go_wp2_with fail
      go_ret
      exact ⟨rfl, HB.out⟩
end Go.Proofs.Ytannmemocaibiaa
