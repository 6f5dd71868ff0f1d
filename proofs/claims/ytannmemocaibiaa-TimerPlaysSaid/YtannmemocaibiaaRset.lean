/-
  The document's Queue: Set.
-/
import Derived.Test.YtannmemocaibiaaRcan
import Derived.Test.YtannmemocaibiaaLast
import Derived.Deep.DeepCutAuto
import Derived.Deep.CutBlock
namespace Go.Proofs.Ytannmemocaibiaa
open Go.RowKit

theorem ltB_neg {a b : KV} (h : ltB a b = false) : ¬ lt2 a b := fun h1 => by
  rw [← ltB_iff, h] at h1
  cases h1
/-- All before k are not behind d, all from k on are: there d goes. -/
theorem ins_at : ∀ {L : List KV} {d : KV} {k : Nat}, (∀ y ∈ L.take k, ltB d y = false) → (∀ y ∈ L.drop k, ltB d y = true) → k ≤ L.length → ins d L = L.take k ++ [d] ++ L.drop k
  | [], d, k, _, _, _ => by simp [ins]
  | x :: L, d, 0, _, h2, _ => by
    have := h2 x (by simp)
    simp [ins, this]
  | x :: L, d, k + 1, h1, h2, hk => by
    have hx := h1 x (by simp)
    have ih := ins_at (L := L) (d := d) (k := k) (fun y hy => h1 y (by simp [hy])) (fun y hy => h2 y (by simpa using hy)) (by simpa using hk)
    simp only [ins, hx]
    rw [show (if false = true then d :: x :: L else x :: ins d L) = x :: ins d L from rfl, ih]
    simp
theorem before_of {L : List KV} {d x : KV} {k : Nat} (ho : Ord L) (hx : L[k]? = some x) (hd : ltB d x = false) : ∀ y ∈ L.take (k + 1), ltB d y = false := by
  intro y hy
  rw [List.take_add_one, hx, List.mem_append] at hy
  rcases hy with hy | hy
  · cases hb : ltB d y with
    | false => rfl
    | true =>
      have h1 := (ltB_iff _ _).1 hb
      have h2 : lt2 y x := by
        have h3 : Ord (L.take (k + 1)) := List.Pairwise.sublist (List.take_sublist _ _) ho
        rw [List.take_add_one, hx] at h3
        exact (List.pairwise_append.1 h3).2.2 y hy x (by simp)
      exact absurd (lt2_trans h1 h2) (ltB_neg hd)
  · simp at hy
    rw [hy]
    exact hd
theorem RR.below {w w' : World} {p c : Nat} {A : Option Addr} {L : List KV} (h : RR w p A c L) (hb : Below w.heap.size w w') : RR w' p A c L :=
  ⟨h.blk.below' hb, h.cap, h.max, fun hn => by
    obtain ⟨b, off, e, h1, h2, h3⟩ := h.row hn
    refine ⟨b, off, e, by have := hb.size; omega, h2, fun i x hx => ?_⟩
    rw [hb.cell (p := ⟨b, off + i * 2, none⟩) h1, hb.cell (p := ⟨b, off + i * 2 + 1, none⟩) h1]
    exact h3 i x hx⟩

theorem rd_any_take {w : World} {p c k : Nat} {A : Option Addr} {L : List KV} (h : RR w p A c L) (hk : k ≤ L.length) : Rd w A k (dueC (L.take k)) := by
  by_cases h0 : L.length = 0
  · have hk0 : k = 0 := by omega
    subst hk0
    exact ⟨rfl, fun _ => rfl, fun ad e j u hu => by simp [dueC] at hu⟩
  · obtain ⟨b, off, e, _, _, h3⟩ := h.row (by omega)
    rw [e]
    exact rd_take h3 hk
theorem rd_any_drop {w : World} {p c k : Nat} {A : Option Addr} {L : List KV} (h : RR w p A c L) (hk : k ≤ L.length) :
    Rd w (if c = k then A else A.map (·.add (k * 2))) (L.length - k) (dueC (L.drop k)) := by
  by_cases h0 : L.length = k
  · have hd : L.drop k = [] := List.drop_eq_nil_of_le (by omega)
    rw [hd, h0, Nat.sub_self]
    exact ⟨rfl, fun _ => rfl, fun ad e j u hu => by simp [dueC] at hu⟩
  · obtain ⟨b, off, e, _, _, h3⟩ := h.row (by omega)
    have hc := h.cap
    rw [if_neg (by omega), e]
    simp only [Option.map_some, add_at]
    exact rd_drop h3 k
theorem own_drew {w : World} {b e z n : Nat} {v : Value} {xs : List Value} (h : w.ownsRow b e z v n xs) : w.drew.ownsRow b e z v n xs := h
theorem rd_one {w : World} {g : Nat} {s : ByteArray} {a : Int} (h : Blk w g 40 #[.string s, .int .i64 a]) : Rd w (some ⟨g, 0, none⟩) 1 (dueC [(s, a)]) :=
  ⟨rfl, fun e => (by cases e), fun ad e j u hu => by
    injection e with e
    subst e
    rw [add_at, Nat.zero_add, h.cell j]
    match j, hu with
    | 0, hu => exact hu
    | 1, hu => exact hu
    | j + 2, hu => simp [dueC] at hu⟩

set_option maxRecDepth 100000 in
set_option maxHeartbeats 8000000 in
theorem rset_any {w : World} {p c : Nat} {A : Option Addr} {L : List KV} (h : RR w p A c L) (s : ByteArray) (a : Int) (hn : L.length ≤ 4000)
    (C : World → Option Addr → Nat → List KV → Prop)
    (hcan : ∀ w1 : World, w = w1 → Calls Try.prog 23 #[.pointer (some ⟨p, 0, none⟩), .string s] w1 fun e w' => (∃ b, e = .returned (.bool b)) ∧ ∃ A' c' L', RR w' p A' c' L' ∧ Ord L' ∧ L'.length ≤ 4000 ∧ C w' A' c' L')
    (R : Ending → World → Prop)
    (hR : ∀ (w1 w2 : World) A1 c1 L1 A2 c2, C w1 A1 c1 L1 → Only (fun k => k = p) w1 w2 → RR w2 p A2 c2 (ins (s, a) L1) → (∀ ad, A2 = some ad → w1.heap.size ≤ ad.block) → R (.returned (.int .i64 0)) w2) :
    Calls Try.prog 22 #[.pointer (some ⟨p, 0, none⟩), .string s, .int .i64 a] w R := by
  have H := Lib.hid h
  have HC := Lib.hid hcan
  have HR := Lib.hid hR
  have c0 := h.blk.cell 0
  simp only [List.getElem?_toArray, List.getElem?_cons_zero] at c0
  clear h hcan hR
  have hguard : decide ((4096 : Int) ≤ (L.length : Int)) = false := decide_eq_false (by omega)
  go_enter Try.func22, Try.ntmps22
  go_upto_region 1 with fail
  go_cut [20] from 9 to 20 (fun v20 wx => v20 = .bool false ∧ w = wx)
  case first =>
    go_wp2_with fail
    refine (find_any H.out s (by omega)).mono ?_
    rintro e w' ⟨rfl, rfl⟩
    generalize findV L s = fv
    go_wp2_with fail
    all_goals go_meet
    all_goals exact ⟨rfl, rfl⟩
  case rest =>
    obtain ⟨rfl, rfl⟩ := hcut
    go_wp2_with fail
    refine (HC.out _ rfl).mono ?_
    rintro e w1 ⟨⟨bb, rfl⟩, A1, c1, L1, hr1, ho1, hn1, hC1⟩
    have H1 := Lib.hid hr1
    have HO1 := Lib.hid ho1
    have HC1 := Lib.hid hC1
    have e0 := hr1.blk.cell 0
    have hp1 := hr1.blk.lt
    simp only [List.getElem?_toArray, List.getElem?_cons_zero] at e0
    have HN1 := Lib.hid hn1
    clear hr1 ho1 hC1 c0 hguard hn1
    go_upto_block 0 with fail
    have HB1 := Lib.hid ((Below.refl w1.heap.size w1).alloc (Nat.le_refl _) (.cells #[.string s, .int .i64 a] 40))
    have HD1 := Lib.hid (Blk.new w1 40 #[.string s, .int .i64 a])
    have hz1 : (w1.alloc (.cells #[.string s, .int .i64 a] 40)).heap.size = w1.heap.size + 1 := by simp
    have HZ1 := Lib.hid hz1
    clear hz1
    generalize hW : w1.alloc (.cells #[.string s, .int .i64 a] 40) = W at *
    have HW := Lib.hid hW
    clear hW
    go_cut [8] from 32 to 47 (fun v8 wx => ∃ k : Nat, v8 = .int .i64 k ∧ k ≤ L1.length ∧ (∀ y ∈ L1.take k, ltB (s, a) y = false) ∧ (∀ y ∈ L1.drop k, ltB (s, a) y = true) ∧ Below W.heap.size W wx)
    case first =>
      go_wp2_with fail
      go_loopw [8] (fun v8 wr => ∃ k : Nat, v8 = .int .i64 k ∧ k ≤ L1.length ∧ (∀ y ∈ L1.drop k, ltB (s, a) y = true) ∧ Below W.heap.size W wr)
        (fun v8 _ => (intOf v8).toNat)
      case atStart => exact ⟨L1.length, rfl, Nat.le_refl _, fun y hy => by simp at hy, Below.refl _ _⟩
      case round =>
        obtain ⟨k, rfl, hk, hd, hb⟩ := hrel
        have HDr := Lib.hid hd
        have HBr := Lib.hid hb
        have HRr := Lib.hid ((H1.out.below HB1.out).below HBr.out)
        have HDb := Lib.hid (HD1.out.below' HBr.out)
        clear hd hb
        obtain hk0 | ⟨j, hj⟩ : k = 0 ∨ ∃ j, k = j + 1 := by
          cases k with
          | zero => exact .inl rfl
          | succ n => exact .inr ⟨n, rfl⟩
        · subst hk0
          go_wp2_with fail
          go_quiet (fail)
          go_wp2_with fail
          go_meet
          exact ⟨0, rfl, Nat.zero_le _, fun y hy => by simp at hy, HDr.out, ⟨HBr.out.os, HBr.out.tape, HBr.out.output, HBr.out.size, HBr.out.block⟩⟩
        · subst hj
          obtain ⟨x, hx⟩ : ∃ x, L1[j]? = some x := ⟨L1[j], List.getElem?_eq_getElem (by omega)⟩
          obtain ⟨b, off, hA, hbl, hbp, hc⟩ := HRr.out.row (by omega)
          subst hA
          obtain ⟨f0, f1⟩ := hc j x hx
          have Hx := Lib.hid hx
          have g0 := HRr.out.blk.cell 0
          have d0 := HDb.out.cell 0
          have d1 := HDb.out.cell 1
          simp only [List.getElem?_toArray, List.getElem?_cons_succ, List.getElem?_cons_zero] at g0 d0 d1
          have hkk : decide ((0 : Int) < (j : Int) + 1) = true := decide_eq_true (by omega)
          have hjn : (j : Int) < (L1.length : Int) := by omega
          have hL4 : L1.length ≤ 4000 := HN1.out
          have hwj : IntKind.i64.wrap (j : Int) = (j : Int) := IntWalk.i64_in _ ⟨by omega, by omega⟩
          clear hx hc e0
          obtain ⟨s2, a2⟩ := x
          dsimp only at f0 f1
          go_wp2_with fail
          refine region_tail 12 (by kernel_rfl) (by kernel_rfl) ?_
          simp only [List.take_succ_cons, List.take_zero, List.drop_succ_cons, List.drop_zero]
          repeat still_step
          refine wpStill_nil ?_
          go_wp2_with fail
          refine (ahead_any (s, a) (s2, a2) _).mono ?_
          rintro e w5 ⟨rfl, hb5⟩
          have HB5 := Lib.hid (HBr.out.trans (Below.mono (w' := w5) ⟨hb5.os, hb5.tape, hb5.output, hb5.size, hb5.block⟩ HBr.out.size))
          clear hb5
          cases hbool : ltB (s, a) (s2, a2)
          · have HF := Lib.hid hbool
            clear hbool
            go_wp2_with fail
            go_meet
            exact ⟨j + 1, by go_num, hk, before_of HO1.out Hx.out HF.out, HDr.out, HB5.out⟩
          · have HF := Lib.hid hbool
            clear hbool
            go_wp2_with fail
            refine ⟨⟨j, by go_num, by omega, fun y hy => ?_, HB5.out⟩, by simp [intOf]⟩
            rw [List.drop_eq_getElem_cons (by omega), List.mem_cons] at hy
            rcases hy with hy | hy
            · have hx2 := Hx.out
              rw [List.getElem?_eq_getElem (by omega)] at hx2
              rw [hy, Option.some.inj hx2]
              exact HF.out
            · exact HDr.out y hy
    case rest =>
      rename World => wr
      obtain ⟨k, rfl, hk, ht, hd, hb⟩ := hcut
      have HT := Lib.hid ht
      have HDp := Lib.hid hd
      have HBr := Lib.hid hb
      have hr := (H1.out.below HB1.out).below HBr.out
      have HRr := Lib.hid hr
      have g0 := hr.blk.cell 0
      have gz := hr.blk.frozen 0
      have hcap := hr.cap
      have hmax := hr.max
      have hdb := HD1.out.below' HBr.out
      have HDb := Lib.hid hdb
      have d0 := hdb.cell 0
      have d1 := hdb.cell 1
      have hp : p < wr.heap.size := hr.blk.lt
      have hdz : w1.heap.size < wr.heap.size := hdb.lt
      simp only [List.getElem?_toArray, List.getElem?_cons_succ, List.getElem?_cons_zero] at g0 d0 d1
      unfold maxLen at hmax
      have HR1 : Hid (∀ W', Below wr.heap.size wr W' → Rd W' A1 k (dueC (L1.take k))) := fun W' hb => rd_any_take (HRr.out.below hb) hk
      obtain ⟨A5, hA5, hr5⟩ : ∃ A5, (if c1 = k then A1 else A1.map (·.add (k * 2))) = A5 ∧ ∀ W', Below wr.heap.size wr W' → Rd W' A5 (L1.length - k) (dueC (L1.drop k)) := ⟨_, rfl, fun W' hb => rd_any_drop (HRr.out.below hb) hk⟩
      have HR2 := Lib.hid hr5
      have hL4 : L1.length ≤ 4000 := HN1.out
      clear ht hd hb hr hdb hr5 e0
      have hk0 : (0 : Int) ≤ (k : Int) := by omega
      have hk1 : (k : Int) ≤ (c1 : Int) := by omega
      have hk2 : (k : Int) ≤ (L1.length : Int) := by omega
      have hk3 : (L1.length : Int) ≤ (c1 : Int) := by omega
      generalize hN : L1.length = n at *
      have HN := Lib.hid hN
      clear hN
      go_wp2_with fail
      have hpd : w1.heap.size ≠ p := by have := hp1; omega
      have HB0 := Lib.hid ((Below.refl wr.heap.size wr).alloc (Nat.le_refl _) (.cells #[] 40)).drew
      have HBd := Lib.hid ((Below.refl wr.heap.size wr).alloc (Nat.le_refl _) (.cells #[.string s, .int .i64 a] 40)).drew
      have HB01 := Lib.hid (((Below.refl wr.heap.size wr).alloc (Nat.le_refl _) (.cells #[] 40)).alloc (by simp) (.cells #[.string s, .int .i64 a] 40)).drew
      have HB10 := Lib.hid (((Below.refl wr.heap.size wr).alloc (Nat.le_refl _) (.cells #[.string s, .int .i64 a] 40)).alloc (by simp) (.cells #[] 40)).drew
      refine wp_region_lastL 21 (fun W => Below wr.heap.size wr W) (by kernel_rfl) ?_
      have HSd := (Below.refl wr.heap.size wr).drew
      refine wpAnyZ_takeB (i := 0) (v := ?v0) rfl (by kernel_rfl) (by kernel_rfl) (by kernel_rfl) (by kernel_rfl) (fun _ _ _ h => h) (by rfl) ?hy (HSd) ?_
      case hy =>
        intro W hW
        try dsimp only at hW
        go_simp
        try with_reducible rfl
      try simp only [Act.put, List.setIfInBounds_toArray, List.set_cons_zero, List.set_cons_succ]
      refine wpAnyZ_takeB (i := 2) (v := ?v2) rfl (by kernel_rfl) (by kernel_rfl) (by kernel_rfl) (by kernel_rfl) (fun _ _ _ h => h) (by rfl) ?hy (HSd) ?_
      case hy =>
        intro W hW
        try dsimp only at hW
        go_simp
        try with_reducible rfl
      try simp only [Act.put, List.setIfInBounds_toArray, List.set_cons_zero, List.set_cons_succ]
      refine wpAnyZ_takeB (i := 3) (v := ?v3) rfl (by kernel_rfl) (by kernel_rfl) (by kernel_rfl) (by kernel_rfl) (fun _ _ _ h => h) (by rfl) ?hy (HSd) ?_
      case hy =>
        intro W hW
        try dsimp only at hW
        go_simp
        try with_reducible rfl
      try simp only [Act.put, List.setIfInBounds_toArray, List.set_cons_zero, List.set_cons_succ]
      refine wpAnyZ_takeB (i := 4) (v := ?v4) rfl (by kernel_rfl) (by kernel_rfl) (by kernel_rfl) (by kernel_rfl) (fun _ _ _ h => h) (by rfl) ?hy (HSd) ?_
      case hy =>
        intro W hW
        try dsimp only at hW
        go_simp
        try with_reducible rfl
      try simp only [Act.put, List.setIfInBounds_toArray, List.set_cons_zero, List.set_cons_succ]
      refine wpAnyZ_takeB (i := 5) (v := ?v5) rfl (by kernel_rfl) (by kernel_rfl) (by kernel_rfl) (by kernel_rfl) (fun _ _ _ h => h) (by rfl) ?hy (HSd) ?_
      case hy =>
        intro W hW
        try dsimp only at hW
        have gW := (hW.cell (p := ⟨p, 0, none⟩) hp).trans g0
        go_simp
        try with_reducible rfl
      try simp only [Act.put, List.setIfInBounds_toArray, List.set_cons_zero, List.set_cons_succ]
      refine wpAnyZ_takeB (i := 6) (v := ?v6) rfl (by kernel_rfl) (by kernel_rfl) (by kernel_rfl) (by kernel_rfl) (fun _ _ _ h => h) (by rfl) ?hy (HSd) ?_
      case hy =>
        intro W hW
        try dsimp only at hW
        go_simp
        try with_reducible rfl
      try simp only [Act.put, List.setIfInBounds_toArray, List.set_cons_zero, List.set_cons_succ]
      refine wpAnyZ_takeB (i := 7) (v := ?v7) rfl (by kernel_rfl) (by kernel_rfl) (by kernel_rfl) (by kernel_rfl) (fun _ _ _ h => h) (by rfl) ?hy (HSd) ?_
      case hy =>
        intro W hW
        try dsimp only at hW
        go_simp
        try with_reducible rfl
      try simp only [Act.put, List.setIfInBounds_toArray, List.set_cons_zero, List.set_cons_succ]
      refine wpAnyZ_takeB (i := 9) (v := ?v9) rfl (by kernel_rfl) (by kernel_rfl) (by kernel_rfl) (by kernel_rfl) (fun _ _ _ h => h) (by rfl) ?hy (HSd) ?_
      case hy =>
        intro W hW
        try dsimp only at hW
        have d0W := (hW.cell (p := ⟨w1.heap.size, 0, none⟩) hdz).trans d0
        have d1W := (hW.cell (p := ⟨w1.heap.size, 1, none⟩) hdz).trans d1
        go_simp
        try with_reducible rfl
      try simp only [Act.put, List.setIfInBounds_toArray, List.set_cons_zero, List.set_cons_succ]
      refine wpAnyZ_takeB (i := 12) (v := ?v12) rfl (by kernel_rfl) (by kernel_rfl) (by kernel_rfl) (by kernel_rfl) (fun _ _ _ h => h) (by rfl) ?hy (HSd) ?_
      case hy =>
        intro W hW
        try dsimp only at hW
        go_simp
        try with_reducible rfl
      try simp only [Act.put, List.setIfInBounds_toArray, List.set_cons_zero, List.set_cons_succ]
      refine wpAnyZ_takeB (i := 13) (v := ?v13) rfl (by kernel_rfl) (by kernel_rfl) (by kernel_rfl) (by kernel_rfl) (fun _ _ _ h => h) (by rfl) ?hy (HSd) ?_
      case hy =>
        intro W hW
        try dsimp only at hW
        go_simp
        try with_reducible rfl
      try simp only [Act.put, List.setIfInBounds_toArray, List.set_cons_zero, List.set_cons_succ]
      refine wpAnyZ_takeB (i := 14) (v := ?v14) rfl (by kernel_rfl) (by kernel_rfl) (by kernel_rfl) (by kernel_rfl) (fun _ _ _ h => h) (by rfl) ?hy (HSd) ?_
      case hy =>
        intro W hW
        try dsimp only at hW
        go_simp
        try with_reducible rfl
      try simp only [Act.put, List.setIfInBounds_toArray, List.set_cons_zero, List.set_cons_succ]
      refine wpAnyZ_takeB (i := 15) (v := ?v15) rfl (by kernel_rfl) (by kernel_rfl) (by kernel_rfl) (by kernel_rfl) (fun _ _ _ h => h) (by rfl) ?hy (HSd) ?_
      case hy =>
        intro W hW
        try dsimp only at hW
        have gW := (hW.cell (p := ⟨p, 0, none⟩) hp).trans g0
        go_simp
        try with_reducible rfl
      try simp only [Act.put, List.setIfInBounds_toArray, List.set_cons_zero, List.set_cons_succ]
      refine wpAnyZ_takeB (i := 16) (v := ?v16) rfl (by kernel_rfl) (by kernel_rfl) (by kernel_rfl) (by kernel_rfl) (fun _ _ _ h => h) (by rfl) ?hy (HSd) ?_
      case hy =>
        intro W hW
        try dsimp only at hW
        go_simp
        try with_reducible rfl
      try simp only [Act.put, List.setIfInBounds_toArray, List.set_cons_zero, List.set_cons_succ]
      refine wpAnyZ_takeB (i := 17) (v := ?v17) rfl (by kernel_rfl) (by kernel_rfl) (by kernel_rfl) (by kernel_rfl) (fun _ _ _ h => h) (by rfl) ?hy (HSd) ?_
      case hy =>
        intro W hW
        try dsimp only at hW
        go_simp
        try with_reducible rfl
      try simp only [Act.put, List.setIfInBounds_toArray, List.set_cons_zero, List.set_cons_succ]
      refine wpAnyZ_ready (rs := [1, 10]) (by kernel_rfl) (by simp) ?_
      refine AllReadyZ.cons rfl (fun K hK => ?_) (AllReadyZ.cons rfl (fun K hK => ?_) AllReadyZ.nil)
      · go_simp
        refine hK _ _ (fun _ => HB0.out) ?_
        clear hK K
        try simp only [Act.put, List.setIfInBounds_toArray, List.set_cons_zero, List.set_cons_succ]
        refine wpAnyZ_ready (rs := [8, 10]) (by kernel_rfl) (by simp) ?_
        refine AllReadyZ.cons rfl (fun K hK => ?_) (AllReadyZ.cons rfl (fun K hK => ?_) AllReadyZ.nil)
        · refine step_app (by rfl) (.tmp 49) (.tmp 55) (by rfl) (by rfl) (.slice (some ⟨wr.heap.size, 0, none⟩) 0 0) 0 [] (by rfl) (own_empty wr) A1 k c1 (dueC (L1.take k)) (by rfl) (HR1.out _ HB0.out) (dueC_one _) (by omega) ?_
          intro v1 wx hownx0 hgx hatx
          have hBx : Below wr.heap.size wr wx := HB0.out.grown hgx (by simp) (fun k hk => by simp [Value.ownBlock] at hk; omega)
          have hkx : ∀ k, v1.ownBlock = some k → wr.heap.size ≤ k := fun k hk => by
            rcases hatx with e | e
            · rw [e] at hk; simp [Value.ownBlock] at hk; omega
            · rw [e] at hk; simp at hk; omega
          have hdx := HDb.out.below' hBx
          have gx := (hBx.cell (p := ⟨p, 0, none⟩) hp).trans g0
          have hpx : p < wx.heap.size := by have := hBx.size; omega
          have hdx2 : w1.heap.size < wx.heap.size := by have := hBx.size; omega
          have dx0 := (hBx.cell (p := ⟨w1.heap.size, 0, none⟩) hdz).trans d0
          have dx1 := (hBx.cell (p := ⟨w1.heap.size, 1, none⟩) hdz).trans d1
          refine hK _ _ (fun _ => hBx) ?_
          clear hK K
          try simp only [Act.put, List.setIfInBounds_toArray, List.set_cons_zero, List.set_cons_succ]
          have hBy := hBx.alloc hBx.size (.cells #[.string s, .int .i64 a] 40)
          have hownx := hownx0.alloc (.cells #[.string s, .int .i64 a] 40)
          have hRx := rd_one (Blk.new wx 40 #[.string s, .int .i64 a])
          refine wpAnyZ_ready (rs := [10]) (by kernel_rfl) (by simp) ?_
          refine AllReadyZ.cons rfl (fun K hK => ?_) AllReadyZ.nil
          go_simp
          refine hK _ _ (fun _ => hBy) ?_
          clear hK K
          try simp only [Act.put, List.setIfInBounds_toArray, List.set_cons_zero, List.set_cons_succ]
          refine wpAnyZ_ready (rs := [11]) (by kernel_rfl) (by simp) ?_
          refine AllReadyZ.cons rfl (fun K hK => ?_) AllReadyZ.nil
          refine step_app (by rfl) (.tmp 56) (.tmp 58) (by rfl) (by rfl) v1 (0 + k) ([] ++ dueC (L1.take k)) (by rfl) hownx _ 1 1 (dueC [(s, a)]) (by rfl) hRx (dueC_one _) (by omega) ?_
          intro v2 w2 hown2 hg2 hat2
          have hB2 : Below wr.heap.size wr w2 := hBy.grown hg2 hBy.size hkx
          have hkk2 : ∀ k, v2.ownBlock = some k → wr.heap.size ≤ k := fun k hk => by
            rcases hat2 with e | e
            · exact hkx k (by rw [← e]; exact hk)
            · rw [e] at hk; injection hk with hk; have := hBy.size; omega
          refine hK _ _ (fun _ => hB2) ?_
          clear hK K
          try simp only [Act.put, List.setIfInBounds_toArray, List.set_cons_zero, List.set_cons_succ]
          refine wpAnyZ_ready (rs := [18]) (by kernel_rfl) (by simp) ?_
          refine AllReadyZ.cons rfl (fun K hK => ?_) AllReadyZ.nil
          refine step_app (by rfl) (.tmp 59) (.tmp 65) (by rfl) (by rfl) v2 (0 + k + 1) ([] ++ dueC (L1.take k) ++ dueC [(s, a)]) (by rfl) hown2 A5 (n - k) (c1 - k) (dueC (L1.drop k)) (by rfl) (HR2.out _ hB2) (dueC_one _) (by omega) ?_
          intro v3 w3 hown3 hg3 hat3
          obtain ⟨A9, c9, rfl⟩ := row_slice2 hown3
          have hB3 : Below wr.heap.size wr w3 := hB2.grown hg3 hB2.size hkk2
          have hkk3 : ∀ k', (Value.slice A9 (0 + k + 1 + (n - k)) c9).ownBlock = some k' → wr.heap.size ≤ k' := fun k' hk => by
            rcases hat3 with e | e
            · exact hkk2 k' (by rw [← e]; exact hk)
            · rw [e] at hk; injection hk with hk; have := hB2.size; omega
          have hd3 := HDb.out.below' hB3
          have g3 := (hB3.cell (p := ⟨p, 0, none⟩) hp).trans g0
          have z3 := (hB3.frozen (p := ⟨p, 0, none⟩) hp).trans gz
          refine hK _ _ (fun _ => hB3) ?_
          clear hK K
          try simp only [Act.put, List.setIfInBounds_toArray, List.set_cons_zero, List.set_cons_succ]
          refine wpAnyZ_ready (rs := [19]) (by kernel_rfl) (by simp) ?_
          refine AllReadyZ.cons rfl (fun K hK => ?_) AllReadyZ.nil
          go_simp
          refine hK _ _ (fun _ => hB3) ?_
          clear hK K
          try simp only [Act.put, List.setIfInBounds_toArray, List.set_cons_zero, List.set_cons_succ]
          refine wpAnyZ_ready (rs := [20]) (by kernel_rfl) (by simp) ?_
          refine AllReadyZ.cons rfl (fun K hK => ?_) AllReadyZ.nil
          go_simp
          refine hK _ _ (fun _ => hB3) ?_
          clear hK K
          try simp only [Act.put, List.setIfInBounds_toArray, List.set_cons_zero, List.set_cons_succ]
          refine wpAnyZ_ready (rs := [21]) (by kernel_rfl) (by simp) ?_
          refine AllReadyZ.cons rfl (fun K hK => ?_) AllReadyZ.nil
          go_simp
          refine hK _ _ (fun h => absurd rfl h) ?_
          clear hK K
          try simp only [Act.put, List.setIfInBounds_toArray, List.set_cons_zero, List.set_cons_succ]
          refine wpAnyZ_done (by kernel_rfl) ?_ _
          go_wp2_with fail
          have hl : (L1.take k ++ [(s, a)] ++ L1.drop k).length = k + 1 + (n - k) := by rw [List.length_append, List.length_append, List.length_take, List.length_drop, HN.out]; simp; omega
          have hdue : [] ++ dueC (L1.take k) ++ dueC [(s, a)] ++ dueC (L1.drop k) = dueC (L1.take k ++ [(s, a)] ++ L1.drop k) := by simp [dueC]
          obtain ⟨q1, q2, q3⟩ := rr_of_own (L2 := L1.take k ++ [(s, a)] ++ L1.drop k) HRr.out.blk hB3 hl (by rw [hdue] at hown3; simpa using hown3) (by simpa using hkk3)
          have hb1 : Below w1.heap.size w1 wr := HB1.out.trans (HBr.out.mono HB1.out.size)
          exact HR.out w1 _ A1 c1 L1 A9 c9 HC1.out ((Only.of_below hb1).trans q2 (fun _ _ h => h)) (by rw [ins_at HT.out HDp.out (by rw [HN.out]; exact hk)]; exact q1) (fun ad e => by have := q3 ad e; have := hb1.size; omega)
        · go_simp
          refine hK _ _ (fun _ => HB01.out) ?_
          clear hK K
          try simp only [Act.put, List.setIfInBounds_toArray, List.set_cons_zero, List.set_cons_succ]
          refine wpAnyZ_ready (rs := [8]) (by kernel_rfl) (by simp) ?_
          refine AllReadyZ.cons rfl (fun K hK => ?_) AllReadyZ.nil
          refine step_app (by rfl) (.tmp 49) (.tmp 55) (by rfl) (by rfl) (.slice (some ⟨wr.heap.size, 0, none⟩) 0 0) 0 [] (by rfl) ((own_empty wr).alloc (.cells #[.string s, .int .i64 a] 40)) A1 k c1 (dueC (L1.take k)) (by rfl) (HR1.out _ HB01.out) (dueC_one _) (by omega) ?_
          intro v1 wx hownx hgx hatx
          have hBx : Below wr.heap.size wr wx := HB01.out.grown hgx (by simp; omega) (fun k hk => by simp [Value.ownBlock] at hk; omega)
          have hkx : ∀ k, v1.ownBlock = some k → wr.heap.size ≤ k := fun k hk => by
            rcases hatx with e | e
            · rw [e] at hk; simp [Value.ownBlock] at hk; omega
            · rw [e] at hk; simp at hk; omega
          have hBy := hBx
          have hRx := rd_one (Blk.grown (g := wr.heap.size + 1) (Blk.drew (by have := Blk.new (wr.alloc (.cells #[] 40)) 40 #[.string s, .int .i64 a]; simpa using this)) hgx (by simp [Value.ownBlock]))
          have hdx := HDb.out.below' hBx
          have gx := (hBx.cell (p := ⟨p, 0, none⟩) hp).trans g0
          have hpx : p < wx.heap.size := by have := hBx.size; omega
          have hdx2 : w1.heap.size < wx.heap.size := by have := hBx.size; omega
          have dx0 := (hBx.cell (p := ⟨w1.heap.size, 0, none⟩) hdz).trans d0
          have dx1 := (hBx.cell (p := ⟨w1.heap.size, 1, none⟩) hdz).trans d1
          refine hK _ _ (fun _ => hBx) ?_
          clear hK K
          try simp only [Act.put, List.setIfInBounds_toArray, List.set_cons_zero, List.set_cons_succ]
          refine wpAnyZ_ready (rs := [11]) (by kernel_rfl) (by simp) ?_
          refine AllReadyZ.cons rfl (fun K hK => ?_) AllReadyZ.nil
          refine step_app (by rfl) (.tmp 56) (.tmp 58) (by rfl) (by rfl) v1 (0 + k) ([] ++ dueC (L1.take k)) (by rfl) hownx _ 1 1 (dueC [(s, a)]) (by rfl) hRx (dueC_one _) (by omega) ?_
          intro v2 w2 hown2 hg2 hat2
          have hB2 : Below wr.heap.size wr w2 := hBy.grown hg2 hBy.size hkx
          have hkk2 : ∀ k, v2.ownBlock = some k → wr.heap.size ≤ k := fun k hk => by
            rcases hat2 with e | e
            · exact hkx k (by rw [← e]; exact hk)
            · rw [e] at hk; injection hk with hk; have := hBy.size; omega
          refine hK _ _ (fun _ => hB2) ?_
          clear hK K
          try simp only [Act.put, List.setIfInBounds_toArray, List.set_cons_zero, List.set_cons_succ]
          refine wpAnyZ_ready (rs := [18]) (by kernel_rfl) (by simp) ?_
          refine AllReadyZ.cons rfl (fun K hK => ?_) AllReadyZ.nil
          refine step_app (by rfl) (.tmp 59) (.tmp 65) (by rfl) (by rfl) v2 (0 + k + 1) ([] ++ dueC (L1.take k) ++ dueC [(s, a)]) (by rfl) hown2 A5 (n - k) (c1 - k) (dueC (L1.drop k)) (by rfl) (HR2.out _ hB2) (dueC_one _) (by omega) ?_
          intro v3 w3 hown3 hg3 hat3
          obtain ⟨A9, c9, rfl⟩ := row_slice2 hown3
          have hB3 : Below wr.heap.size wr w3 := hB2.grown hg3 hB2.size hkk2
          have hkk3 : ∀ k', (Value.slice A9 (0 + k + 1 + (n - k)) c9).ownBlock = some k' → wr.heap.size ≤ k' := fun k' hk => by
            rcases hat3 with e | e
            · exact hkk2 k' (by rw [← e]; exact hk)
            · rw [e] at hk; injection hk with hk; have := hB2.size; omega
          have hd3 := HDb.out.below' hB3
          have g3 := (hB3.cell (p := ⟨p, 0, none⟩) hp).trans g0
          have z3 := (hB3.frozen (p := ⟨p, 0, none⟩) hp).trans gz
          refine hK _ _ (fun _ => hB3) ?_
          clear hK K
          try simp only [Act.put, List.setIfInBounds_toArray, List.set_cons_zero, List.set_cons_succ]
          refine wpAnyZ_ready (rs := [19]) (by kernel_rfl) (by simp) ?_
          refine AllReadyZ.cons rfl (fun K hK => ?_) AllReadyZ.nil
          go_simp
          refine hK _ _ (fun _ => hB3) ?_
          clear hK K
          try simp only [Act.put, List.setIfInBounds_toArray, List.set_cons_zero, List.set_cons_succ]
          refine wpAnyZ_ready (rs := [20]) (by kernel_rfl) (by simp) ?_
          refine AllReadyZ.cons rfl (fun K hK => ?_) AllReadyZ.nil
          go_simp
          refine hK _ _ (fun _ => hB3) ?_
          clear hK K
          try simp only [Act.put, List.setIfInBounds_toArray, List.set_cons_zero, List.set_cons_succ]
          refine wpAnyZ_ready (rs := [21]) (by kernel_rfl) (by simp) ?_
          refine AllReadyZ.cons rfl (fun K hK => ?_) AllReadyZ.nil
          go_simp
          refine hK _ _ (fun h => absurd rfl h) ?_
          clear hK K
          try simp only [Act.put, List.setIfInBounds_toArray, List.set_cons_zero, List.set_cons_succ]
          refine wpAnyZ_done (by kernel_rfl) ?_ _
          go_wp2_with fail
          have hl : (L1.take k ++ [(s, a)] ++ L1.drop k).length = k + 1 + (n - k) := by rw [List.length_append, List.length_append, List.length_take, List.length_drop, HN.out]; simp; omega
          have hdue : [] ++ dueC (L1.take k) ++ dueC [(s, a)] ++ dueC (L1.drop k) = dueC (L1.take k ++ [(s, a)] ++ L1.drop k) := by simp [dueC]
          obtain ⟨q1, q2, q3⟩ := rr_of_own (L2 := L1.take k ++ [(s, a)] ++ L1.drop k) HRr.out.blk hB3 hl (by rw [hdue] at hown3; simpa using hown3) (by simpa using hkk3)
          have hb1 : Below w1.heap.size w1 wr := HB1.out.trans (HBr.out.mono HB1.out.size)
          exact HR.out w1 _ A1 c1 L1 A9 c9 HC1.out ((Only.of_below hb1).trans q2 (fun _ _ h => h)) (by rw [ins_at HT.out HDp.out (by rw [HN.out]; exact hk)]; exact q1) (fun ad e => by have := q3 ad e; have := hb1.size; omega)
      · go_simp
        refine hK _ _ (fun _ => HBd.out) ?_
        clear hK K
        try simp only [Act.put, List.setIfInBounds_toArray, List.set_cons_zero, List.set_cons_succ]
        refine wpAnyZ_ready (rs := [1]) (by kernel_rfl) (by simp) ?_
        refine AllReadyZ.cons rfl (fun K hK => ?_) AllReadyZ.nil
        go_simp
        refine hK _ _ (fun _ => HB10.out) ?_
        clear hK K
        try simp only [Act.put, List.setIfInBounds_toArray, List.set_cons_zero, List.set_cons_succ]
        refine wpAnyZ_ready (rs := [8]) (by kernel_rfl) (by simp) ?_
        refine AllReadyZ.cons rfl (fun K hK => ?_) AllReadyZ.nil
        refine step_app (by rfl) (.tmp 49) (.tmp 55) (by rfl) (by rfl) (.slice (some ⟨wr.heap.size + 1, 0, none⟩) 0 0) 0 [] (by rfl) (own_drew (by have := own_empty (wr.alloc (.cells #[.string s, .int .i64 a] 40)); simpa using this)) A1 k c1 (dueC (L1.take k)) (by rfl) (HR1.out _ HB10.out) (dueC_one _) (by omega) ?_
        intro v1 wx hownx hgx hatx
        have hBx : Below wr.heap.size wr wx := HB10.out.grown hgx (by simp; omega) (fun k hk => by simp [Value.ownBlock] at hk; omega)
        have hkx : ∀ k, v1.ownBlock = some k → wr.heap.size ≤ k := fun k hk => by
          rcases hatx with e | e
          · rw [e] at hk; simp [Value.ownBlock] at hk; omega
          · rw [e] at hk; simp at hk; omega
        have hBy := hBx
        have hRx := rd_one (Blk.grown (g := wr.heap.size) (Blk.drew ((Blk.new wr 40 #[.string s, .int .i64 a]).alloc (.cells #[] 40))) hgx (by simp [Value.ownBlock]))
        have hdx := HDb.out.below' hBx
        have gx := (hBx.cell (p := ⟨p, 0, none⟩) hp).trans g0
        have hpx : p < wx.heap.size := by have := hBx.size; omega
        have hdx2 : w1.heap.size < wx.heap.size := by have := hBx.size; omega
        have dx0 := (hBx.cell (p := ⟨w1.heap.size, 0, none⟩) hdz).trans d0
        have dx1 := (hBx.cell (p := ⟨w1.heap.size, 1, none⟩) hdz).trans d1
        refine hK _ _ (fun _ => hBx) ?_
        clear hK K
        try simp only [Act.put, List.setIfInBounds_toArray, List.set_cons_zero, List.set_cons_succ]
        refine wpAnyZ_ready (rs := [11]) (by kernel_rfl) (by simp) ?_
        refine AllReadyZ.cons rfl (fun K hK => ?_) AllReadyZ.nil
        refine step_app (by rfl) (.tmp 56) (.tmp 58) (by rfl) (by rfl) v1 (0 + k) ([] ++ dueC (L1.take k)) (by rfl) hownx _ 1 1 (dueC [(s, a)]) (by rfl) hRx (dueC_one _) (by omega) ?_
        intro v2 w2 hown2 hg2 hat2
        have hB2 : Below wr.heap.size wr w2 := hBy.grown hg2 hBy.size hkx
        have hkk2 : ∀ k, v2.ownBlock = some k → wr.heap.size ≤ k := fun k hk => by
          rcases hat2 with e | e
          · exact hkx k (by rw [← e]; exact hk)
          · rw [e] at hk; injection hk with hk; have := hBy.size; omega
        refine hK _ _ (fun _ => hB2) ?_
        clear hK K
        try simp only [Act.put, List.setIfInBounds_toArray, List.set_cons_zero, List.set_cons_succ]
        refine wpAnyZ_ready (rs := [18]) (by kernel_rfl) (by simp) ?_
        refine AllReadyZ.cons rfl (fun K hK => ?_) AllReadyZ.nil
        refine step_app (by rfl) (.tmp 59) (.tmp 65) (by rfl) (by rfl) v2 (0 + k + 1) ([] ++ dueC (L1.take k) ++ dueC [(s, a)]) (by rfl) hown2 A5 (n - k) (c1 - k) (dueC (L1.drop k)) (by rfl) (HR2.out _ hB2) (dueC_one _) (by omega) ?_
        intro v3 w3 hown3 hg3 hat3
        obtain ⟨A9, c9, rfl⟩ := row_slice2 hown3
        have hB3 : Below wr.heap.size wr w3 := hB2.grown hg3 hB2.size hkk2
        have hkk3 : ∀ k', (Value.slice A9 (0 + k + 1 + (n - k)) c9).ownBlock = some k' → wr.heap.size ≤ k' := fun k' hk => by
          rcases hat3 with e | e
          · exact hkk2 k' (by rw [← e]; exact hk)
          · rw [e] at hk; injection hk with hk; have := hB2.size; omega
        have hd3 := HDb.out.below' hB3
        have g3 := (hB3.cell (p := ⟨p, 0, none⟩) hp).trans g0
        have z3 := (hB3.frozen (p := ⟨p, 0, none⟩) hp).trans gz
        refine hK _ _ (fun _ => hB3) ?_
        clear hK K
        try simp only [Act.put, List.setIfInBounds_toArray, List.set_cons_zero, List.set_cons_succ]
        refine wpAnyZ_ready (rs := [19]) (by kernel_rfl) (by simp) ?_
        refine AllReadyZ.cons rfl (fun K hK => ?_) AllReadyZ.nil
        go_simp
        refine hK _ _ (fun _ => hB3) ?_
        clear hK K
        try simp only [Act.put, List.setIfInBounds_toArray, List.set_cons_zero, List.set_cons_succ]
        refine wpAnyZ_ready (rs := [20]) (by kernel_rfl) (by simp) ?_
        refine AllReadyZ.cons rfl (fun K hK => ?_) AllReadyZ.nil
        go_simp
        refine hK _ _ (fun _ => hB3) ?_
        clear hK K
        try simp only [Act.put, List.setIfInBounds_toArray, List.set_cons_zero, List.set_cons_succ]
        refine wpAnyZ_ready (rs := [21]) (by kernel_rfl) (by simp) ?_
        refine AllReadyZ.cons rfl (fun K hK => ?_) AllReadyZ.nil
        go_simp
        refine hK _ _ (fun h => absurd rfl h) ?_
        clear hK K
        try simp only [Act.put, List.setIfInBounds_toArray, List.set_cons_zero, List.set_cons_succ]
        refine wpAnyZ_done (by kernel_rfl) ?_ _
        go_wp2_with fail
        have hl : (L1.take k ++ [(s, a)] ++ L1.drop k).length = k + 1 + (n - k) := by rw [List.length_append, List.length_append, List.length_take, List.length_drop, HN.out]; simp; omega
        have hdue : [] ++ dueC (L1.take k) ++ dueC [(s, a)] ++ dueC (L1.drop k) = dueC (L1.take k ++ [(s, a)] ++ L1.drop k) := by simp [dueC]
        obtain ⟨q1, q2, q3⟩ := rr_of_own (L2 := L1.take k ++ [(s, a)] ++ L1.drop k) HRr.out.blk hB3 hl (by rw [hdue] at hown3; simpa using hown3) (by simpa using hkk3)
        have hb1 : Below w1.heap.size w1 wr := HB1.out.trans (HBr.out.mono HB1.out.size)
        exact HR.out w1 _ A1 c1 L1 A9 c9 HC1.out ((Only.of_below hb1).trans q2 (fun _ _ h => h)) (by rw [ins_at HT.out HDp.out (by rw [HN.out]; exact hk)]; exact q1) (fun ad e => by have := q3 ad e; have := hb1.size; omega)
end Go.Proofs.Ytannmemocaibiaa
