/-
  The document's Queue beside the program's: none of its blocks is the other's.
-/
import Derived.Test.YtannmemocaibiaaRset
import Derived.Test.YtannmemocaibiaaLive
namespace Go.Proofs.Ytannmemocaibiaa
open Go.RowKit

theorem findV_split {L : List KV} {s : ByteArray} (hnd : (L.map (·.1)).Nodup) : (findV L s = -1 ∧ ¬ hasN L s ∧ hasB L s = false ∧ others L s = L) ∨
    ∃ i x, i < L.length ∧ L[i]? = some x ∧ x.1 = s ∧ findV L s = (i : Int) ∧ hasB L s = true ∧ others L s = L.take i ++ L.drop (i + 1) := by
  cases hf : findI L s with
  | none =>
    left
    have h1 := List.findIdx?_eq_none_iff.1 hf
    have hn : ¬ hasN L s := by rintro ⟨x, hx, e⟩; have := h1 x hx; simp [e] at this
    refine ⟨by rw [findV, hf], hn, ?_, others_not hn⟩
    cases hb : hasB L s with
    | false => rfl
    | true => exact absurd ((hasB_iff _ _).1 hb) hn
  | some i =>
    right
    obtain ⟨hi, h1, h2⟩ := List.findIdx?_eq_some_iff_getElem.1 hf
    have hx : L[i].1 = s := by simpa using h1
    refine ⟨i, L[i], hi, List.getElem?_eq_getElem hi, hx, by rw [findV, hf], (hasB_iff _ _).2 ⟨L[i], List.getElem_mem hi, hx⟩, ?_⟩
    have he : L = L.take i ++ L[i] :: L.drop (i + 1) := by rw [List.getElem_cons_drop hi, List.take_append_drop]
    have hn : ((L.take i ++ L[i] :: L.drop (i + 1)).map (·.1)).Nodup := by rw [← he]; exact hnd
    rw [List.map_append, List.map_cons, List.nodup_append] at hn
    obtain ⟨_, h4, h3⟩ := hn
    have h5 := List.nodup_cons.1 h4
    unfold others
    conv => lhs; rw [he]
    rw [List.filter_append, List.filter_cons]
    have e1 : (L.take i).filter (fun x => !(x.1 == s)) = L.take i := List.filter_eq_self.2 fun x hx' => by
      have := h3 x.1 (List.mem_map.2 ⟨x, hx', rfl⟩) L[i].1 (by simp)
      rw [hx] at this
      simpa using this
    have e2 : (L.drop (i + 1)).filter (fun x => !(x.1 == s)) = L.drop (i + 1) := List.filter_eq_self.2 fun x hx' => by
      have : x.1 ≠ s := fun e => h5.1 (by rw [hx, ← e]; exact List.mem_map.2 ⟨x, hx', rfl⟩)
      simpa using this
    rw [e1, e2]
    simp [hx]

/-- The document's queue at block p; its row is none of the blocks F. -/
structure RQ (w : World) (p : Nat) (L : List KV) (F : Nat → Prop) : Prop where
  ex : ∃ A c, RR w p A c L ∧ (0 < L.length → ∀ ad, A = some ad → ¬ F ad.block)
  notp : ¬ F p

theorem RR.only {F : Nat → Prop} {w w' : World} {p c : Nat} {A : Option Addr} {L : List KV} (h : RR w p A c L) (hb : Only F w w') (hp : ¬ F p) (hA : 0 < L.length → ∀ ad, A = some ad → ¬ F ad.block) : RR w' p A c L :=
  ⟨h.blk.only hb hp, h.cap, h.max, fun hn => by
    obtain ⟨b, off, e, h1, h2, h3⟩ := h.row hn
    have hk := hb.block b h1 (hA hn _ e)
    refine ⟨b, off, e, by have := hb.size; omega, h2, fun i x hx => ?_⟩
    rw [World.cell?_of_block (a := ⟨b, off + i * 2, none⟩) hk, World.cell?_of_block (a := ⟨b, off + i * 2 + 1, none⟩) hk]
    exact h3 i x hx⟩

theorem RR.dueS {w : World} {p c : Nat} {A : Option Addr} {L : List KV} (h : RR w p A c L) : DueS w A L := fun hn => by
  obtain ⟨b, off, e, _, _, h3⟩ := h.row hn
  exact ⟨b, off, e, h3⟩
theorem RR.drew {w : World} {p c : Nat} {A : Option Addr} {L : List KV} (h : RR w p A c L) : RR w.drew p A c L := h.below (Below.refl _ _).drew

section
variable {w0 w w' : World} {q p : Nat} {F F' : Nat → Prop} {L L' : List KV}
theorem RQ.move (h : RQ w p L F) (hm : Move w w' F F') : RQ w' p L F' := by
  obtain ⟨A, c, hr, hA⟩ := h.ex
  refine ⟨⟨A, c, hr.only hm.only h.notp hA, fun hn ad e => ?_⟩, hm.apart p hr.blk.lt h.notp⟩
  obtain ⟨b, off, e2, h1, _, _⟩ := hr.row hn
  rw [e] at e2
  injection e2 with e2
  have hb : ad.block = b := by rw [e2]
  rw [hb]
  exact hm.apart b h1 (by rw [← hb]; exact hA hn ad e)
theorem RQ.later (h : RQ w p L F) (hb : Below w.heap.size w w') : RQ w' p L F := h.move (Move.of_below hb F)
theorem RQ.alloc (h : RQ w p L F) (o : Obj) : RQ (w.alloc o) p L F := h.later ((Below.refl _ _).alloc (Nat.le_refl _) o)
theorem RQ.drew (h : RQ w p L F) : RQ w.drew p L F := h.later (Below.refl _ _).drew
theorem RQ.step {A A' : Option Addr} {c c' : Nat} (h : RQ w p L F) (hr : RR w p A c L) (hr' : RR w' p A' c' L') (hA : 0 < L.length → ∀ ad, A = some ad → ¬ F ad.block) (hs : RStep w A A') (hlen : 0 < L'.length → 0 < L.length) (hlt : ∀ k, F k → k < w.heap.size) : RQ w' p L' F :=
  ⟨⟨A', c', hr', fun hn ad' e hf => by
    rcases hs ad' e with h1 | ⟨ad, h1, h2⟩
    · have := hlt _ hf; omega
    · exact hA (hlen hn) ad h1 (by rw [h2]; exact hf)⟩, h.notp⟩
theorem QB.ref (h : QB w0 w q F L) (hO : Only (fun k => k = p) w w') (hp : ¬ F p) (h0 : w0.heap.size ≤ p) : QB w0 w' q F L :=
  ⟨h.que.only hO (fun k hk e => hp (by rw [← e]; exact hk)), h.below.trans (hO.below (fun k hk => by omega) h.below.size), h.base⟩

theorem rq_find (h : RQ w p L F) (s : ByteArray) (hn : L.length ≤ 1000000) :
    Calls Try.prog 26 #[.pointer (some ⟨p, 0, none⟩), .string s] w fun e w' => e = .returned (.int .i64 (findV L s)) ∧ w = w' := by
  obtain ⟨A, c, hr, _⟩ := h.ex
  exact find_any hr s hn

theorem rq_cancel (h : RQ w p L F) (hlt : ∀ k, F k → k < w.heap.size) (s : ByteArray) (hn : L.length ≤ 4000) (hnd : (L.map (·.1)).Nodup) :
    Calls Try.prog 23 #[.pointer (some ⟨p, 0, none⟩), .string s] w fun e w' => e = .returned (.bool (hasB L s)) ∧ RQ w' p (others L s) F ∧ Only (fun k => k = p) w w' := by
  obtain ⟨A, c, hr, hA⟩ := h.ex
  rcases findV_split (s := s) hnd with ⟨h1, h2, h3, h4⟩ | ⟨i, x, hi, hx, hxs, h1, h3, h4⟩
  · rw [h3, h4]
    refine (rcan_not hr s (by omega) h1).mono ?_
    rintro e w' ⟨rfl, rfl⟩
    exact ⟨rfl, h, Only.refl _ _⟩
  · rw [h3, h4]
    refine (rcan_found hr s (by omega) i hi h1).mono ?_
    rintro e w' ⟨rfl, A', c', hr', hO, hs⟩
    exact ⟨rfl, h.step hr hr' hA hs (fun _ => by omega) hlt, hO⟩

theorem rq_set (h : RQ w p L F) (hlt : ∀ k, F k → k < w.heap.size) (s : ByteArray) (a : Int) (hn : L.length ≤ 4000) (ho : Ord L) (hnd : (L.map (·.1)).Nodup) :
    Calls Try.prog 22 #[.pointer (some ⟨p, 0, none⟩), .string s, .int .i64 a] w fun e w' => e = .returned (.int .i64 0) ∧ RQ w' p (setS L s a) F ∧ Only (fun k => k = p) w w' := by
  obtain ⟨A, c, hr, hA⟩ := h.ex
  refine rset_any hr s a hn (fun w1 A1 c1 L1 => L1 = others L s ∧ Only (fun k => k = p) w w1) ?_ (fun e w' => e = .returned (.int .i64 0) ∧ RQ w' p (setS L s a) F ∧ Only (fun k => k = p) w w') ?_
  · rintro w1 rfl
    refine (rq_cancel h hlt s hn hnd).mono ?_
    rintro e w' ⟨rfl, hq, hO⟩
    obtain ⟨A', c', hr', _⟩ := hq.ex
    have hl : (others L s).length ≤ L.length := List.length_filter_le _ _
    exact ⟨⟨_, rfl⟩, A', c', _, hr', others_ord ho s, by omega, rfl, hO⟩
  · rintro w1 w2 A1 c1 L1 A2 c2 ⟨rfl, hO⟩ hO2 hr2 hA2
    refine ⟨rfl, ⟨⟨A2, c2, hr2, fun _ ad e hf => ?_⟩, h.notp⟩, hO.trans hO2 (fun _ _ e => e)⟩
    have h1 := hlt _ hf
    have h2 := hA2 ad e
    have h3 := hO.size
    omega

theorem rq_pop (h : RQ w p L F) (hlt : ∀ k, F k → k < w.heap.size) (now : Int) (hn : L.length ≤ 4000) :
    Calls Try.prog 24 #[.pointer (some ⟨p, 0, none⟩), .int .i64 now] w fun e w' => e = .returned (popS L now).1 ∧ RQ w' p (popS L now).2 F ∧ Only (fun k => k = p) w w' := by
  obtain ⟨A, c, hr, hA⟩ := h.ex
  match L, h, hr, hA, hn with
  | [], h, hr, hA, _ =>
    refine (rpop_nil hr now).mono ?_
    rintro e w' ⟨rfl, hb⟩
    exact ⟨rfl, h.later hb, Only.of_below hb⟩
  | d :: l, h, hr, hA, hn =>
    simp only [List.length_cons] at hn
    by_cases hd : d.2 ≤ now
    · rw [show popS (d :: l) now = (.tuple #[dueV d, .bool true], l) from if_pos hd]
      refine (rpop_due hr now (by omega) hd).mono ?_
      rintro e w' ⟨rfl, A', c', hr', hO, hs⟩
      exact ⟨rfl, h.step hr hr' hA hs (fun _ => by simp) hlt, hO⟩
    · rw [show popS (d :: l) now = (.tuple #[due0, .bool false], d :: l) from if_neg hd]
      refine (rpop_later hr now (by omega) (by omega)).mono ?_
      rintro e w' ⟨rfl, hb⟩
      exact ⟨rfl, h.later hb, Only.of_below hb⟩
end
end Go.Proofs.Ytannmemocaibiaa
