/-
  The walk of live: three timers, in order.
-/
import Derived.Test.YtannmemocaibiaaAbs
namespace Go.Proofs.Ytannmemocaibiaa
open Go.RowKit

set_option maxHeartbeats 400000 in
theorem num_any (x : Int) (w : World) : Calls Try.prog 12 #[.int .i64 x] w fun e w' => e = .returned (.int .i64 x) ∧ w = w' := by
  go_enter Try.func12, Try.ntmps12
  go_wp2
  go_ret
  exact ⟨rfl, rfl⟩

/-- A queue of the call's own: all its blocks lie behind those of w0, which stand as they stood. -/
structure QB (w0 w : World) (q : Nat) (F : Nat → Prop) (L : List KV) : Prop where
  que : Que w q F L
  below : Below w0.heap.size w0 w
  base : ∀ k, F k → w0.heap.size ≤ k
/-- From F to F' behind a call in w: what was not the queue's is not the queue's. -/
structure Move (w w' : World) (F F' : Nat → Prop) : Prop where
  only : Only F w w'
  apart : ∀ k, k < w.heap.size → ¬ F k → ¬ F' k

section
variable {w0 w w' : World} {q : Nat} {F F' F'' : Nat → Prop} {L : List KV}
theorem QB.step {L' : List KV} (h : QB w0 w q F L) (hq : Que w' q F' L') (hO : Only F w w') (hF : ∀ k, F' k → F k ∨ w.heap.size ≤ k) : QB w0 w' q F' L' ∧ Move w w' F F' :=
  ⟨⟨hq, h.below.trans (hO.below h.base h.below.size), fun k hk => by
    rcases hF k hk with e | e
    · exact h.base k e
    · have := h.below.size; omega⟩, hO, fun k hk hn hk' => by
    rcases hF k hk' with e | e
    · exact hn e
    · omega⟩
theorem Move.refl (w : World) (F : Nat → Prop) : Move w w F F := ⟨Only.refl _ _, fun _ _ h => h⟩
theorem Move.of_below (h : Below w.heap.size w w') (F : Nat → Prop) : Move w w' F F := ⟨Only.of_below h, fun _ _ h => h⟩
theorem QB.later (h : QB w0 w q F L) (hb : Below w.heap.size w w') : QB w0 w' q F L := ⟨h.que.below hb, h.below.trans (hb.mono h.below.size), h.base⟩
theorem QB.alloc (h : QB w0 w q F L) (o : Obj) : QB w0 (w.alloc o) q F L := h.later ((Below.refl _ _).alloc (Nat.le_refl _) o)
theorem QB.drew (h : QB w0 w q F L) : QB w0 w.drew q F L := h.later (Below.refl _ _).drew
theorem QB.setCell (h : QB w0 w q F L) {p : Addr} (hp : ¬ F p.block) (h0 : w0.heap.size ≤ p.block) (u : Value) : QB w0 (w.setCell p u) q F L :=
  ⟨h.que.only ((Only.refl (fun k => k = p.block) w).setCell (fun _ => rfl) u) (fun k hk e => hp (by rw [← e]; exact hk)), h.below.setCell h0 u, h.base⟩
/-- A block that is not the queue's. -/
structure Own (w : World) (F : Nat → Prop) (g : Nat) (t : TypeId) (cs : Array Value) : Prop where
  blk : Blk w g t cs
  not : ¬ F g
theorem Own.move {g : Nat} {t : TypeId} {cs : Array Value} (h : Own w F g t cs) (hm : Move w w' F F') : Own w' F' g t cs := ⟨h.blk.only hm.only h.not, hm.apart g h.blk.lt h.not⟩
theorem Own.alloc {g : Nat} {t : TypeId} {cs : Array Value} (h : Own w F g t cs) (o : Obj) : Own (w.alloc o) F g t cs := ⟨h.blk.alloc o, h.not⟩
theorem Own.new (h : QB w0 w q F L) (t : TypeId) (cs : Array Value) : Own (w.alloc (.cells cs t)) F w.heap.size t cs := ⟨Blk.new w t cs, fun hk => Nat.lt_irrefl _ (h.que.lt _ hk)⟩
end

theorem qb_new (w : World) : Calls Try.prog 10 #[] w fun e w' => ∃ q F, e = .returned (.pointer (some ⟨q, 0, none⟩)) ∧ QB w w' q F [] := by
  refine (que_new w).mono ?_
  rintro e w' ⟨q, F, rfl, h1, h2, h3⟩
  exact ⟨q, F, rfl, h1, h2, h3⟩

section
variable {w0 w : World} {q : Nat} {F : Nat → Prop} {L : List KV}
theorem qb_set (h : QB w0 w q F L) (s : ByteArray) (a : Int) (hroom : hasN L s ∨ L.length < 4096) (hn : L.length ≤ 1000000) :
    Calls Try.prog 11 #[.pointer (some ⟨q, 0, none⟩), .string s, .int .i64 a] w fun e w' => e = .returned (.int .i64 0) ∧ ∃ F', QB w0 w' q F' (setS L s a) ∧ Move w w' F F' := by
  refine (que_set h.que s a hroom hn).mono ?_
  rintro e w' ⟨rfl, F', h1, h2, h3⟩
  exact ⟨rfl, F', h.step h1 h2 h3⟩
theorem qb_cancel (h : QB w0 w q F L) (A : Option Addr) (ns : List ByteArray) (c g : Nat) (hA : Names w A ns g) (hg : 0 < ns.length → ¬ F g) (hn : L.length ≤ 1000000) (hns : ns.length ≤ 1000000) :
    Calls Try.prog 14 #[.pointer (some ⟨q, 0, none⟩), .slice A ns.length c] w fun e w' => e = .returned (.int .i64 (canS L ns).2) ∧ ∃ F', QB w0 w' q F' (canS L ns).1 ∧ Move w w' F F' := by
  refine (que_cancel h.que A ns c g hA hg hn hns).mono ?_
  rintro e w' ⟨rfl, F', h1, h2, h3⟩
  exact ⟨rfl, F', h.step h1 h2 (fun k hk => .inl (h3 k hk))⟩
/-- What Pop answers, and what it leaves. -/
def popS (L : List KV) (now : Int) : Value × List KV :=
  match L with
  | [] => (.tuple #[due0, .bool false], [])
  | d :: l => if d.2 ≤ now then (.tuple #[dueV d, .bool true], l) else (.tuple #[due0, .bool false], d :: l)
theorem qb_pop (h : QB w0 w q F L) (hn : L.length ≤ 1000000) (now : Int) :
    Calls Try.prog 16 #[.pointer (some ⟨q, 0, none⟩), .int .i64 now] w fun e w' => e = .returned (popS L now).1 ∧ ∃ F', QB w0 w' q F' (popS L now).2 ∧ Move w w' F F' := by
  match L, h, hn with
  | [], h, hn =>
    refine (que_pop_nil h.que now).mono ?_
    rintro e w' ⟨rfl, hb⟩
    exact ⟨rfl, F, h.later hb, Move.of_below hb F⟩
  | d :: l, h, hn =>
    simp only [List.length_cons] at hn
    by_cases hd : d.2 ≤ now
    · rw [show popS (d :: l) now = (.tuple #[dueV d, .bool true], l) from if_pos hd]
      refine (que_pop h.que (by omega) now hd).mono ?_
      rintro e w' ⟨rfl, F', h1, h2, h3⟩
      exact ⟨rfl, F', h.step h1 h2 (fun k hk => .inl (h3 k hk))⟩
    · rw [show popS (d :: l) now = (.tuple #[due0, .bool false], d :: l) from if_neg hd]
      refine (que_pop_later h.que (by omega) now (by omega)).mono ?_
      rintro e w' ⟨rfl, hb⟩
      exact ⟨rfl, F, h.later hb, Move.of_below hb F⟩
end

def sb : ByteArray := ⟨#[98]⟩
def sa : ByteArray := ⟨#[97]⟩
def sc : ByteArray := ⟨#[99]⟩
theorem live1 : setS [] ⟨#[98]⟩ 5 = [(⟨#[98]⟩, 5)] := by rfl
theorem live2 : setS [(⟨#[98]⟩, 5)] ⟨#[97]⟩ 5 = [(⟨#[97]⟩, 5), (⟨#[98]⟩, 5)] := by kernel_rfl
theorem live3 : setS [(⟨#[97]⟩, 5), (⟨#[98]⟩, 5)] ⟨#[99]⟩ 3 = [(⟨#[99]⟩, 3), (⟨#[97]⟩, 5), (⟨#[98]⟩, 5)] := by kernel_rfl

set_option maxRecDepth 100000 in
set_option maxHeartbeats 4000000 in
theorem live_any (w : World) : Calls Try.prog 9 #[] w fun e w' => e = .returned (.bool true) ∧ Below w.heap.size w w' := by
  go_enter Try.func9, Try.ntmps9
  go_wp2_with fail
  refine (qb_new _).mono ?_
  rintro e w1 ⟨q, F1, rfl, hq⟩
  have HQ1 := Lib.hid hq
  clear hq
  go_wp2_with fail
  refine (qb_set HQ1.out _ _ (.inr (by simp)) (by simp)).mono ?_
  rintro e w2 ⟨rfl, F2, hq, _⟩
  rw [live1] at hq
  have HQ2 := Lib.hid hq
  clear hq
  go_wp2_with fail
  refine (num_any _ _).mono ?_
  rintro e w' ⟨rfl, rfl⟩
  go_wp2_with fail
  refine (qb_set HQ2.out _ _ (.inr (by simp)) (by simp)).mono ?_
  rintro e w3 ⟨rfl, F3, hq, _⟩
  rw [live2] at hq
  have HQ3 := Lib.hid hq
  clear hq
  go_wp2_with fail
  refine (num_any _ _).mono ?_
  rintro e w' ⟨rfl, rfl⟩
  go_wp2_with fail
  refine (qb_set HQ3.out _ _ (.inr (by simp)) (by simp)).mono ?_
  rintro e w4 ⟨rfl, F4, hq, _⟩
  rw [live3] at hq
  have HQ4 := Lib.hid hq
  clear hq
  go_wp2_with fail
  refine (num_any _ _).mono ?_
  rintro e w' ⟨rfl, rfl⟩
  go_wp2_with fail
  refine (qb_pop HQ4.out (by simp) 4).mono ?_
  rintro e w5 ⟨rfl, F5, hq, _⟩
  have hp : popS [((⟨#[99]⟩ : ByteArray), (3 : Int)), (⟨#[97]⟩, 5), (⟨#[98]⟩, 5)] 4 = (.tuple #[.agg #[.string ⟨#[99]⟩, .int .i64 3], .bool true], [(⟨#[97]⟩, 5), (⟨#[98]⟩, 5)]) := rfl
  rw [hp] at hq ⊢
  dsimp only at hq ⊢
  have own2 := Own.new hq 40 #[.string ⟨#[99]⟩, .int .i64 3]
  have HOwn := Lib.hid own2
  have HQ5 := Lib.hid (hq.alloc (.cells #[.string ⟨#[99]⟩, .int .i64 3] 40))
  clear hq own2 hp
  go_wp2_with fail
  refine (qb_pop HQ5.out (by simp) 4).mono ?_
  rintro e w6 ⟨rfl, F6, hq, hmv⟩
  have hp : popS [((⟨#[97]⟩ : ByteArray), (5 : Int)), (⟨#[98]⟩, 5)] 4 = (.tuple #[due0, .bool false], [(⟨#[97]⟩, 5), (⟨#[98]⟩, 5)]) := rfl
  rw [hp] at hq ⊢
  dsimp only [due0] at hq ⊢
  have HOwn6 := Lib.hid ((HOwn.out.move hmv).alloc (.cells #[.string ⟨#[]⟩, .int .i64 0] 40))
  have HQ6 := Lib.hid (hq.alloc (.cells #[.string ⟨#[]⟩, .int .i64 0] 40))
  clear hq hmv hp
  go_wp2_with fail
  refine (qb_pop HQ6.out (by simp) 5).mono ?_
  rintro e w7 ⟨rfl, F7, hq, hmv⟩
  have hp : popS [((⟨#[97]⟩ : ByteArray), (5 : Int)), (⟨#[98]⟩, 5)] 5 = (.tuple #[.agg #[.string ⟨#[97]⟩, .int .i64 5], .bool true], [(⟨#[98]⟩, 5)]) := rfl
  rw [hp] at hq ⊢
  dsimp only [due0] at hq ⊢
  have kb := (HOwn6.out.move hmv).blk
  have k0 := kb.cell 0
  have k1 := kb.cell 1
  simp only [List.getElem?_toArray, List.getElem?_cons_succ, List.getElem?_cons_zero] at k0 k1
  have hlt := kb.lt
  have HQ7 := Lib.hid (hq.alloc (.cells #[.string ⟨#[97]⟩, .int .i64 5] 40))
  clear hq hmv hp kb
  go_wp2_with fail
  refine (HQ7.out.que.len).mono ?_
  rintro e w' ⟨rfl, rfl⟩
  go_wp2_with fail
  refine (jitter_any 1000 7 _ (by decide) (by decide) (by decide) (by decide)).mono ?_
  rintro e w' ⟨rfl, rfl⟩
  rw [jitV_live]
  go_wp2_with fail
  go_ret
  exact ⟨rfl, HQ7.out.below⟩
end Go.Proofs.Ytannmemocaibiaa
