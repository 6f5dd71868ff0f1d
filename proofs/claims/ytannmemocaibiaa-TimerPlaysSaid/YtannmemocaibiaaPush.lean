/-
  The walks of Push and Pop of the heap of timers.
-/
import Derived.Test.YtannmemocaibiaaHeap
import Derived.Maps.AppendAt
namespace Go.Proofs.Ytannmemocaibiaa
open Go.RowKit

theorem info64 : (Try.prog.info? 64).map (fun i => (i.zero, i.size, i.bytes)) = some (some (.pointer none), 1, 8) := by kernel_rfl

theorem run_ta64 (a : Addr) (w : World) : (Instr.typeAssert (.iface 64 (.pointer (some a))) 20 64 false).run Try.prog w = .ok (.pointer (some a)) w := by kernel_rfl

theorem row_slice {w : World} {sv : Value} {n : Nat} {xs : List Value} {e : TypeId} (h : w.ownsRow 0 e 1 sv n xs) : ∃ A c, sv = .slice A n c := by
  rcases h.2 with ⟨h1, h2⟩ | ⟨g, cap, cur, h1, _⟩
  · exact ⟨none, 0, by rw [h1, h2]⟩
  · exact ⟨_, _, h1⟩

theorem row_far {w : World} {v : Value} {n base : Nat} {xs : List Value} {e : TypeId} (h : w.ownsRow base e 1 v n xs) {p : Addr} (hp : v.ownBlock ≠ some p.block) (u : Value) : (w.setCell p u).ownsRow base e 1 v n xs := by
  refine h.kept (row := some p.block) ⟨rfl, rfl, rfl, by simp [World.setCell], fun k _ hk => Below.heap_setCell w p u k (fun e => hk (by rw [e]))⟩ (.inr hp)

set_option maxRecDepth 100000 in
set_option maxHeartbeats 1000000 in
theorem push_cells (q p n c : Nat) (A : Option Addr) (mv s x o : Value) (xs : List Value) (w : World) (hq : Blk w q 63 #[.slice A n c, mv]) (hp : Blk w p 67 #[s, x, o]) (hrow : w.ownsRow 0 64 1 (.slice A n c) n xs) (hn : n ≤ 1000000) :
    Calls Try.prog 78 #[.pointer (some ⟨q, 0, none⟩), .iface 64 (.pointer (some ⟨p, 0, none⟩))] w fun e w' => e = .returned (.tuple #[]) ∧
      ∃ sv', Blk w' q 63 #[sv', mv] ∧ Blk w' p 67 #[s, x, .int .i64 n] ∧ w'.ownsRow 0 64 1 sv' (n + 1) (xs ++ [.pointer (some ⟨p, 0, none⟩)]) ∧
      Only (fun k => (Value.slice A n c).ownBlock = some k ∨ k = q ∨ k = p) w w' ∧ (sv'.ownBlock = (Value.slice A n c).ownBlock ∨ ∃ k, sv'.ownBlock = some k ∧ w.heap.size ≤ k) := by
  obtain ⟨i0, hi, hz0, hz1, hz2⟩ := info_parts info64
  have n1 : q ≠ p := Blk.ne_ hq hp (by decide)
  have n2 : (Value.slice A n c).ownBlock ≠ some q := own_blk_ne hrow hq (by decide)
  have n3 : (Value.slice A n c).ownBlock ≠ some p := own_blk_ne hrow hp (by decide)
  have c1 := hq.cell 0
  have c2 := hp.cell 2
  have f1 := hq.frozen 0
  have f2 := hp.frozen 2
  simp only [List.getElem?_toArray, List.getElem?_cons_succ, List.getElem?_cons_zero] at c1 c2
  have HQ := Lib.hid hq
  have HP := Lib.hid hp
  clear hq hp
  have hta := fun wx => run_ta64 ⟨p, 0, none⟩ wx
  go_enter Try.func78, Try.ntmps78
  have e1 : (1 : Nat) + 0 = 1 := rfl
  have hown : (w.setCell ⟨p, 2, none⟩ (.int .i64 n)).ownsRow 0 64 1 (.slice A n c) n xs := row_far hrow (p := ⟨p, 2, none⟩) n3 _
  have Hown := Lib.hid hown
  clear hown e1
  go_wp2_with (at_builtin; refine wpList_append_own_at _ rfl (.tmp 17) (.tmp 19) _ rfl 0 64 i0 (.pointer none) 1 8 Try.underlying61 hi hz0 hz1 hz2 rfl (by decide) (.slice A n c) n xs rfl (Hown.out.alloc _) ⟨w.heap.size, 0, none⟩ 1 1 [.pointer (some ⟨p, 0, none⟩)] rfl rfl ?c1 ?c2 ?c3 ?c4 (Nat.zero_le _) ?_)
  case c1 =>
    intro j u hj
    have := cell_one_new (w.setCell ⟨p, 2, none⟩ (.int .i64 n)) (.pointer (some ⟨p, 0, none⟩)) 64 j u hj
    simpa [World.setCell] using this
  case c2 => intro u hu; simp only [List.mem_singleton] at hu; subst hu; rfl
  case c3 => unfold maxLen; omega
  case c4 => omega
  intro v' w1 hown1 hgrow _ hat
  obtain ⟨A', c', rfl⟩ := row_slice hown1
  have kq : Blk w1 q 63 #[.slice A n c, mv] := ((HQ.out.far (p := ⟨p, 2, none⟩) n1 (.int .i64 n)).alloc (.cells #[.pointer (some ⟨p, 0, none⟩)] 64)).grown hgrow (fun e => n2 e.symm)
  have kp : Blk w1 p 67 #[s, x, .int .i64 n] := ((HP.out.set_ 2 (.int .i64 n)).alloc (.cells #[.pointer (some ⟨p, 0, none⟩)] 64)).grown hgrow (fun e => n3 e.symm)
  have kO : Only (fun k => (Value.slice A n c).ownBlock = some k ∨ k = q ∨ k = p) w w1 := (((Only.refl _ w).setCell (p := ⟨p, 2, none⟩) (fun _ => .inr (.inr rfl)) _).alloc _).grown hgrow (fun k hk _ => .inl hk)
  have d1 := kq.cell 0
  have g1 := kq.frozen 0
  have Hat := Lib.hid hat
  have Hown1 := Lib.hid hown1
  have KQ := Lib.hid kq
  have KP := Lib.hid kp
  have KO := Lib.hid kO
  have N4 := own_blk_ne hown1 kq (by decide)
  have hz := hgrow.size
  clear hat hown1 kq kp kO hgrow hta c1 c2 f1 f2 hrow
  simp only [List.getElem?_toArray, List.getElem?_cons_zero] at d1
  go_wp2
  go_end0
  refine ⟨rfl, .slice A' (n + 1) c', KQ.out.set_ 0 _, KP.out.far (p := ⟨q, 0, none⟩) (Ne.symm n1) _, row_far Hown1.out (p := ⟨q, 0, none⟩) N4 _, KO.out.setCell (fun _ => .inr (.inl rfl)) _, ?_⟩
  rcases Hat.out with h | h
  · exact .inl h
  · exact .inr ⟨_, h, by omega⟩

set_option maxRecDepth 100000 in
set_option maxHeartbeats 1000000 in
theorem pop_cells (q n c B : Nat) (mv x : Value) (w : World) (hq : Blk w q 63 #[.slice (some ⟨B, 0, none⟩) (n + 1) c, mv]) (hx : w.cell? ⟨B, n, none⟩ = some x) (hn : n ≤ 1000000) (hc : n + 1 ≤ c) (_hc2 : c ≤ 9223372036854775807) (p : Addr) (hxp : x = .pointer (some p)) :
    Calls Try.prog 77 #[.pointer (some ⟨q, 0, none⟩)] w fun e w' => e = .returned (.iface 64 x) ∧ w' = w.setCell ⟨q, 0, none⟩ (.slice (some ⟨B, 0, none⟩) n c) := by
  subst hxp
  have c1 := hq.cell 0
  have f1 := hq.frozen 0
  simp only [List.getElem?_toArray, List.getElem?_cons_zero] at c1
  clear hq
  go_enter Try.func77, Try.ntmps77
  go_wp2
  go_ret
  exact ⟨rfl, rfl⟩

theorem ptrs_append (rows : List Row) (r : Row) : ptrs (rows ++ [r]) = ptrs rows ++ [.pointer (some ⟨r.p, 0, none⟩)] := by simp [ptrs]

theorem push_any (q m p : Nat) (sv : Value) (rows : List Row) (s : ByteArray) (x : Int) (o : Value) (w : World) (h : HeapAt w q m sv rows) (hp : Blk w p 67 #[.string s, .int .i64 x, o]) (hn : rows.length ≤ 1000000) (hf : ∀ r ∈ rows, r.p ≠ p) :
    Calls Try.prog 78 #[.pointer (some ⟨q, 0, none⟩), .iface 64 (.pointer (some ⟨p, 0, none⟩))] w fun e w' => e = .returned (.tuple #[]) ∧
      ∃ sv', HeapAt w' q m sv' (rows ++ [⟨p, s, x⟩]) ∧ Only (fun k => Hfp sv rows k ∨ k = q ∨ k = p) w w' ∧ (sv'.ownBlock = sv.ownBlock ∨ ∃ k, sv'.ownBlock = some k ∧ w.heap.size ≤ k) := by
  obtain ⟨A, c, rfl⟩ := row_slice h.row
  refine (push_cells q p rows.length c A _ _ _ o _ w h.q hp h.row hn).mono ?_
  rintro e w' ⟨rfl, sv', kq, kp, kr, kO, hat⟩
  refine ⟨rfl, sv', ⟨kq, ?_, ?_⟩, kO.mono ?_, hat⟩
  · rw [ptrs_append, List.length_append]; exact kr
  · intro i r hr
    rcases Nat.lt_or_ge i rows.length with hi | hi
    · rw [List.getElem?_append_left hi] at hr
      have hb := h.ones i r hr
      refine hb.only kO ?_
      rintro (e | e | e)
      · exact own_blk_ne h.row hb (by decide) e
      · exact Blk.ne_ hb h.q (by decide) e
      · exact hf r (List.mem_iff_getElem?.2 ⟨i, hr⟩) e
    · rw [List.getElem?_append_right hi] at hr
      have h0 : i - rows.length = 0 := by
        rcases Nat.eq_zero_or_pos (i - rows.length) with h0 | h0
        · exact h0
        · rw [List.getElem?_eq_none (by simp; omega)] at hr; cases hr
      rw [h0] at hr
      simp only [List.getElem?_cons_zero, Option.some.injEq] at hr
      subst hr
      have : i = rows.length := by omega
      subst this
      exact kp
  · rintro k _ (e | e | e)
    · exact .inl (.inl e)
    · exact .inr (.inl e)
    · exact .inr (.inr e)

theorem pop_any (q m : Nat) (sv : Value) (rows : List Row) (r : Row) (w : World) (h : HeapAt w q m sv (rows ++ [r])) (hn : rows.length ≤ 1000000) :
    Calls Try.prog 77 #[.pointer (some ⟨q, 0, none⟩)] w fun e w' => e = .returned (.iface 64 (.pointer (some ⟨r.p, 0, none⟩))) ∧
      ∃ sv', HeapAt w' q m sv' rows ∧ Only (fun k => k = q) w w' ∧ sv'.ownBlock = sv.ownBlock := by
  obtain ⟨B, cap, cur, rfl, hB, hc, hm, hs, ht⟩ := row_form h.row (by simp)
  have hm' := hm
  unfold maxLen at hm
  simp only [List.length_append, List.length_cons, List.length_nil, Nat.zero_add] at hc ht h ⊢
  have hx := (hB.cell rows.length).trans (cur_get (rows := rows ++ [r]) (i := rows.length) (by simpa using ht) (by simp))
  simp only [List.getD_eq_getElem?_getD, List.getElem?_append_right (Nat.le_refl _), Nat.sub_self, List.getElem?_cons_zero, Option.getD_some] at hx
  refine (pop_cells q rows.length cap B _ _ w h.q hx hn hc (by omega) _ rfl).mono ?_
  rintro e w' ⟨rfl, rfl⟩
  have kO : Only (fun k => k = q) w (w.setCell ⟨q, 0, none⟩ (.slice (some ⟨B, 0, none⟩) rows.length cap)) := (Only.refl (fun k => k = q) w).setCell (p := ⟨q, 0, none⟩) (fun _ => rfl) _
  refine ⟨rfl, _, ⟨h.q.set_ 0 _, ?_, ?_⟩, kO, rfl⟩
  · refine ⟨by simp [ptrs], .inr ⟨B, cap, cur, rfl, Nat.zero_le _, hB.only kO (Blk.ne_ hB h.q (by decide)), by omega, hm', by simpa using hs, ?_⟩⟩
    rw [Nat.mul_one]
    have := congrArg (List.take rows.length) ht
    rw [List.take_take, ptrs_append, List.take_append_of_le_length (by simp [ptrs])] at this
    rw [Nat.min_eq_left (by omega)] at this
    rw [this, List.take_of_length_le (by simp [ptrs])]
  · intro i r' hr
    have hi : i < rows.length := (List.getElem?_eq_some_iff.1 hr).1
    have hb := h.ones i r' (by rw [List.getElem?_append_left hi]; exact hr)
    exact hb.only kO (Blk.ne_ hb h.q (by decide))
end Go.Proofs.Ytannmemocaibiaa
