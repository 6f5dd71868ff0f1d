/-
  The walk of TimerCancels.
-/
import Derived.Test.YtannmemocaibiaaActs
import Derived.Test.YtannmemocaibiaaMany
import Derived.Maps.AppendAt
namespace Go.Proofs.Ytannmemocaibiaa
open Go.RowKit

def SL (xs : List ActV) : List KV := xs.foldl (fun L x => setS L x.name x.tm) []
theorem SL_snoc (xs : List ActV) (x : ActV) : SL (xs ++ [x]) = setS (SL xs) x.name x.tm := by unfold SL; rw [List.foldl_append]; rfl
theorem SL_mem {xs : List ActV} {y : KV} (h : y ∈ SL xs) : ∃ x ∈ xs, y = (x.name, x.tm) := by
  have key : ∀ (xs : List ActV) (L : List KV) (y : KV), y ∈ xs.foldl (fun L x => setS L x.name x.tm) L → y ∈ L ∨ ∃ x ∈ xs, y = (x.name, x.tm) := by
    intro xs
    induction xs with
    | nil => intro L y h; exact .inl h
    | cons x xs ih =>
      intro L y h
      rcases ih _ y h with h1 | ⟨z, hz, e⟩
      · rcases List.mem_cons.1 ((setS_perm L x.name x.tm).mem_iff.1 h1) with e | e
        · exact .inr ⟨x, by simp, e⟩
        · exact .inl (List.mem_filter.1 e).1
      · exact .inr ⟨z, List.mem_cons_of_mem _ hz, e⟩
  rcases key xs [] y h with h1 | h1
  · simp at h1
  · exact h1
theorem SL_has (xs : List ActV) (s : ByteArray) : hasN (SL xs) s ↔ ∃ x ∈ xs, x.name = s := by
  have key : ∀ (xs : List ActV) (L : List KV), hasN (xs.foldl (fun L x => setS L x.name x.tm) L) s ↔ hasN L s ∨ ∃ x ∈ xs, x.name = s := by
    intro xs
    induction xs with
    | nil => intro L; simp
    | cons x xs ih =>
      intro L
      rw [List.foldl_cons, ih, setS_has]
      constructor
      · rintro ((h | h) | ⟨z, hz, e⟩)
        · exact .inr ⟨x, by simp, h.symm⟩
        · exact .inl h
        · exact .inr ⟨z, List.mem_cons_of_mem _ hz, e⟩
      · rintro (h | ⟨z, hz, e⟩)
        · exact .inl (.inr h)
        · rcases List.mem_cons.1 hz with rfl | hz
          · exact .inl (.inl e.symm)
          · exact .inr ⟨z, hz, e⟩
  rw [SL, key]
  constructor
  · rintro (⟨x, hx, _⟩ | h)
    · simp at hx
    · exact h
  · exact .inr
theorem setS_len_le (L : List KV) (s : ByteArray) (a : Int) : (setS L s a).length ≤ L.length + 1 := by
  rw [(setS_perm L s a).length_eq, List.length_cons]
  have : (others L s).length ≤ L.length := List.length_filter_le _ _
  omega
theorem SL_len (xs : List ActV) : (SL xs).length ≤ xs.length := by
  have key : ∀ (xs : List ActV) (L : List KV), (xs.foldl (fun L x => setS L x.name x.tm) L).length ≤ L.length + xs.length := by
    intro xs
    induction xs with
    | nil => intro L; simp
    | cons x xs ih =>
      intro L
      rw [List.foldl_cons, List.length_cons]
      have := ih (setS L x.name x.tm)
      have h2 := setS_len_le L x.name x.tm
      omega
  have := key xs []
  simpa [SL] using this

theorem info9 : (Try.prog.info? 9).map (fun i => (i.zero, i.size, i.bytes)) = some (some (.string ⟨#[]⟩), 1, 16) := by kernel_rfl
def strV (xs : List ActV) : List Value := xs.map fun x => .string x.name

theorem names_of_row {w : World} {base : Nat} {A : Option Addr} {n c : Nat} {xs : List ActV} (h : w.ownsRow base 9 1 (.slice A n c) n (strV xs)) (hn : n = xs.length) :
    Names w A (xs.map (·.name)) ((((Value.slice A n c).ownBlock).getD 0)) := by
  intro h0
  rw [List.length_map] at h0
  rcases h.2 with ⟨_, h1⟩ | ⟨g, cap, cur, hv, _, hh, _, _, _, ht⟩
  · omega
  · injection hv with hA _ _
    subst hA
    refine ⟨g, rfl, rfl, cur, hh, fun j s hj => ?_⟩
    have hjl : j < n := by
      have := (List.getElem?_eq_some_iff.1 hj).1
      rw [List.length_map] at this
      omega
    rw [← Array.getElem?_toList]
    have h2 : (cur.toList.take (n * 1))[j]? = cur.toList[j]? := by rw [Nat.mul_one, List.getElem?_take_of_lt hjl]
    rw [← h2, ht, strV, List.getElem?_map]
    rw [List.getElem?_map] at hj
    cases hx : xs[j]? with
    | none => rw [hx] at hj; simp at hj
    | some x => rw [hx] at hj; simp at hj; simp [hj]

theorem names_two {w : World} (s t : ByteArray) : Names (w.alloc (.cells #[.string s, .string t] 9)) (some ⟨w.heap.size, 0, none⟩) [s, t] w.heap.size := by
  intro _
  refine ⟨_, rfl, rfl, _, Blk.new w 9 _, fun j u hj => ?_⟩
  match j, hj with
  | 0, hj => simp only [List.getElem?_cons_zero, Option.some.injEq] at hj; subst hj; rfl
  | 1, hj => simp only [List.getElem?_cons_succ, List.getElem?_cons_zero, Option.some.injEq] at hj; subst hj; rfl
  | j + 2, hj => simp at hj

theorem others_twice (L : List KV) (s : ByteArray) : others (others L s) s = others L s :=
  others_not (by rintro ⟨x, hx, e⟩; exact others_ne x hx e)
theorem others_hasN (L : List KV) (s : ByteArray) : ¬ hasN (others L s) s := by rintro ⟨x, hx, e⟩; exact others_ne x hx e
theorem canS_two (L : List KV) (s : ByteArray) : canS L [s, s] = (others L s, if hasB L s then 1 else 0) := by
  have h2 : hasB (others L s) s = false := by
    cases h : hasB (others L s) s with
    | false => rfl
    | true => exact absurd ((hasB_iff _ _).1 h) (others_hasN L s)
  simp only [canS, List.foldl_cons, List.foldl_nil, can1, others_twice, h2]
  cases hasB L s <;> simp
theorem canS_nil (ns : List ByteArray) : canS [] ns = ([], 0) := by
  unfold canS
  induction ns with
  | nil => rfl
  | cons s ns ih => rw [List.foldl_cons]; exact ih
theorem canS_set {L : List KV} (h : Ord L) {s : ByteArray} (hs : ¬ hasN L s) (a : Int) : (canS (setS L s a) [s]).1 = L := by
  show others (setS L s a) s = L
  have h1 : (others (setS L s a) s).Perm (others ((s, a) :: others L s) s) := others_perm (setS_perm L s a) s
  have h2 : others ((s, a) :: others L s) s = L := by
    have : others ((s, a) :: others L s) s = others (others L s) s := by
      unfold others
      rw [List.filter_cons]
      simp
    rw [this, others_twice, others_not hs]
  rw [h2] at h1
  exact ord_eq h1 (others_ord (setS_ord h s a) s) h

theorem row_block {w : World} {base e n c : Nat} {A : Option Addr} {xs : List Value} (h : w.ownsRow base e 1 (.slice A n c) n xs) (h0 : 0 < n) : (Value.slice A n c).ownBlock = some (((Value.slice A n c).ownBlock).getD 0) := by
  rcases h.2 with ⟨_, h1⟩ | ⟨g, cap, cur, hv, _⟩
  · omega
  · injection hv with hA _ _
    subst hA
    rfl

set_option maxRecDepth 100000 in
set_option maxHeartbeats 16000000 in
theorem canc_any (A : Option Addr) (c : Nat) (xs : List ActV) (nm : ByteArray) (w : World) (hA : Acts w A xs) (h1 : xs.length ≤ 200) (h2 : nm.size ≤ 5000) :
    Calls Try.prog 4 #[.slice A xs.length c, .string nm] w fun e w' => e = .returned (.bool true) ∧ Below w.heap.size w w' := by
  obtain ⟨i0, hi, hz0, hz1, hz2⟩ := info_parts info9
  have HA := Lib.hid hA
  clear hA
  go_enter Try.func4, Try.ntmps4
  go_wp2_with fail
  refine (qb_new _).mono ?_
  rintro e w1 ⟨q, F1, rfl, hq⟩
  have HQ1 := Lib.hid hq
  clear hq
  go_wp2_with fail
  go_loopw [6, 7, 8] (fun v6 v7 vi wr => ∃ (k : Nat) (F : Nat → Prop) (A6 : Option Addr) (c6 : Nat), k ≤ xs.length ∧ vi = .int .i64 k ∧ v6 = .slice A6 k c6 ∧ wr.ownsRow 0 9 1 (.slice A6 k c6) k (strV (xs.take k)) ∧ v7 = .bool ((xs.take k).any (fun x => x.name.toList == nm.toList)) ∧
      QB w wr q F (SL (xs.take k)) ∧ (∀ g, (Value.slice A6 k c6).ownBlock = some g → ¬ F g ∧ w.heap.size ≤ g))
    (fun _ _ vi _ => xs.length - (intOf vi).toNat)
  case atStart => exact ⟨0, F1, none, 0, Nat.zero_le _, rfl, rfl, World.ownsRow_nil _ _ _ _, rfl, HQ1.out, fun g h => by simp [Value.ownBlock] at h⟩
  case round =>
    obtain ⟨k, F, A6, c6, hk, rfl, rfl, hrow, rfl, hq, hdis⟩ := hrel
    have HQ := Lib.hid hq
    have HR := Lib.hid hrow
    have HD := Lib.hid hdis
    clear hq hrow hdis
    by_cases hkn : k < xs.length
    · obtain ⟨b, off, hAe, hbl, hcells⟩ := HA.out.cells (by omega)
      subst hAe
      obtain ⟨x, hx⟩ : ∃ x, xs[k]? = some x := ⟨xs[k], List.getElem?_eq_getElem hkn⟩
      obtain ⟨_, c1, c2⟩ := hcells k x hx
      have hbw : Below w.heap.size w wr := HQ.out.below
      have d1 : wr.cell? ⟨b, off + k * 3 + 1, none⟩ = some (.string x.name) := (hbw.cell (p := ⟨b, _, none⟩) hbl).trans c1
      have d2 : wr.cell? ⟨b, off + k * 3 + 2, none⟩ = some (.int .i64 x.tm) := (hbw.cell (p := ⟨b, _, none⟩) hbl).trans c2
      have Hx := Lib.hid hx
      have HC := Lib.hid hcells
      clear hx hcells c1 c2 hbw
      by_cases hsz : x.name.size ≤ 5000
      · have htake : xs.take (k + 1) = xs.take k ++ [x] := by
          rw [List.take_add_one, Hx.out]; rfl
        have HT := Lib.hid htake
        have hsl : (SL (xs.take k)).length ≤ k := by have := SL_len (xs.take k); simp at this; omega
        have HSL := Lib.hid hsl
        generalize hb7 : ((xs.take k).any fun x => x.name.toList == nm.toList) = b7
        have HB7 := Lib.hid hb7
        clear htake hsl hb7
        go_wp2_with fail
        refine region_tail 11 (by kernel_rfl) (by kernel_rfl) ?_
        simp only [List.take_succ_cons, List.take_zero, List.drop_succ_cons, List.drop_zero]
        repeat still_step
        refine wpStill_nil ?_
        go_wp2_with fail
        refine (qb_set HQ.out.drew x.name x.tm (.inr (by have := HSL.out; omega)) (by have := HSL.out; omega)).mono ?_
        rintro e w2 ⟨rfl, F2, hq2, hmv⟩
        have hrow2 : w2.ownsRow 0 9 1 (.slice A6 k c6) k (strV (xs.take k)) := row_only (w := wr.drew) HR.out hmv.only (fun g hg => (HD.out g hg).1)
        have hdis2 : ∀ g, (Value.slice A6 k c6).ownBlock = some g → ¬ F2 g ∧ w.heap.size ≤ g := fun g hg => ⟨hmv.apart g (HR.out.lt g hg).2 (HD.out g hg).1, (HD.out g hg).2⟩
        have e1 : w2.cell? ⟨b, off + k * 3 + 1, none⟩ = some (.string x.name) := by
          obtain ⟨_, c1, _⟩ := HC.out k x Hx.out
          exact (hq2.below.cell (p := ⟨b, _, none⟩) hbl).trans c1
        have HQ2 := Lib.hid hq2
        have HR2 := Lib.hid hrow2
        have HD2 := Lib.hid hdis2
        clear hq2 hrow2 hdis2 hmv d1 d2
        have hbw2 : b < w2.heap.size := by have := HQ2.out.below.size; omega
        go_wp2_with (at_builtin; refine wpList_append_own_at _ rfl (.tmp 54) (.tmp 60) _ rfl 0 9 i0 (.string ⟨#[]⟩) 1 16 Try.underlying33 hi hz0 hz1 hz2 rfl (by decide) (.slice A6 k c6) k (strV (xs.take k)) rfl (HR2.out.alloc _) ⟨w2.heap.size, 0, none⟩ 1 1 [.string x.name] rfl rfl ?c1 ?c2 ?c3 ?c4 (Nat.zero_le _) ?_)
        case c1 => exact cell_one_new w2 (.string x.name) 9
        case c2 => intro u hu; simp only [List.mem_singleton] at hu; subst hu; rfl
        case c3 => unfold maxLen; omega
        case c4 => omega
        intro v' w3 hown3 hgrow _ hat
        obtain ⟨A7, c7, rfl⟩ := row_slice hown3
        have hO3 : Only (fun g => (Value.slice A6 k c6).ownBlock = some g) (w2.alloc (.cells #[.string x.name] 9)) w3 := (Only.refl _ _).grown hgrow (fun g hg _ => hg)
        have hq3 : QB w w3 q F2 (setS (SL (xs.take k)) x.name x.tm) := by
          have h := HQ2.out.alloc (.cells #[.string x.name] 9)
          exact ⟨h.que.only hO3 (fun g hg e => (HD2.out g e).1 hg), h.below.trans (hO3.below (fun g hg => (HD2.out g hg).2) h.below.size), h.base⟩
        have hdis3 : ∀ g, (Value.slice A7 (k + 1) c7).ownBlock = some g → ¬ F2 g ∧ w.heap.size ≤ g := by
          intro g hg
          rcases hat with e | e
          · exact HD2.out g (by rw [← e]; exact hg)
          · rw [e] at hg
            injection hg with hg
            have := HQ2.out.below.size
            exact ⟨fun hf => by have := HQ2.out.que.lt g hf; omega, by omega⟩
        have f1 : w3.cell? ⟨b, off + k * 3 + 1, none⟩ = some (.string x.name) := by
          obtain ⟨_, c1, _⟩ := HC.out k x Hx.out
          exact (hq3.below.cell (p := ⟨b, _, none⟩) hbl).trans c1
        have HQ3 := Lib.hid hq3
        have HR3 := Lib.hid hown3
        have HD3 := Lib.hid hdis3
        clear hq3 hown3 hdis3 hO3 hgrow hat e1
        cases b7
        · go_wp2_with fail
          refine ⟨⟨k + 1, F2, A7, c7, by omega, by go_num, rfl, ?_, ?_, ?_, HD3.out⟩, by simp [intOf]; omega⟩
          · have : strV (xs.take (k + 1)) = strV (xs.take k) ++ [.string x.name] := by rw [HT.out]; simp [strV]
            rw [this]; exact HR3.out
          · rw [HT.out, List.any_append, HB7.out]; simp
          · rw [HT.out, SL_snoc]; exact HQ3.out
        · go_wp2_with fail
          refine ⟨⟨k + 1, F2, A7, c7, by omega, by go_num, rfl, ?_, ?_, ?_, HD3.out⟩, by simp [intOf]; omega⟩
          · have : strV (xs.take (k + 1)) = strV (xs.take k) ++ [.string x.name] := by rw [HT.out]; simp [strV]
            rw [this]; exact HR3.out
          · rw [HT.out, List.any_append, HB7.out]; simp
          · rw [HT.out, SL_snoc]; exact HQ3.out
      · go_wp2_with fail
        refine (live_any _).mono ?_
        rintro e w9 ⟨rfl, hb⟩
        have HB := Lib.hid hb
        clear hb
        go_wp2_with fail
        go_ret
        exact ⟨rfl, HQ.out.below.trans (HB.out.mono HQ.out.below.size)⟩
    · have hke : k = xs.length := by omega
      subst hke
      have HBx : Hid (((xs.take xs.length).any fun x => x.name.toList == nm.toList) = hasB (SL xs) nm) := by
        show _ = _
        rw [List.take_length, Bool.eq_iff_iff, hasB_iff, SL_has, List.any_eq_true]
        constructor
        · rintro ⟨x, hx, e⟩; exact ⟨x, hx, bytes_ext (by simpa using e)⟩
        · rintro ⟨x, hx, e⟩; exact ⟨x, hx, by rw [e]; simp⟩
      rw [HBx.out]
      have HSx : Hid (SL (xs.take xs.length) = SL xs) := by show _ = _; rw [List.take_length]
      have HVx : Hid (strV (xs.take xs.length) = strV xs) := by show _ = _; rw [List.take_length]
      rw [HSx.out] at HQ
      rw [HVx.out] at HR
      have hbd : ∀ y ∈ SL xs, y.2 ≤ 9223372036854775807 := by
        intro y hy
        obtain ⟨x, hx, rfl⟩ := SL_mem hy
        exact (HA.out.bd x hx).2.1
      have HBd := Lib.hid hbd
      have hlen := SL_len xs
      have HLen := Lib.hid hlen
      clear hbd hlen HBx HSx HVx
      generalize SL xs = L at *
      obtain ⟨m, hm0⟩ : ∃ m, (others L nm).length = m := ⟨_, rfl⟩
      have HmO := Lib.hid hm0
      clear hm0
      cases hbv : hasB L nm
      · have hm : L.length = m := by
          rw [← HmO.out, others_not (fun h => by rw [← hasB_iff] at h; rw [hbv] at h; cases h)]
        have hmb : m + 1 ≤ 201 := by have := HLen.out; omega
        have Hm := Lib.hid hm
        have HBv := Lib.hid hbv
        clear hm hbv
        go_wp2_with fail
        refine (HQ.out.que.len).mono ?_
        rintro e w' ⟨rfl, rfl⟩
        rw [show (L.length : Int) = (m : Int) by have := Hm.out; omega]
        go_wp2_with fail
        have hqn := HQ.out.alloc (.cells #[.string nm, .string nm] 9)
        refine (qb_cancel hqn (some ⟨wr.heap.size, 0, none⟩) [nm, nm] 2 wr.heap.size (names_two nm nm) (fun _ hf => by have := HQ.out.que.lt _ hf; omega) (by have := HLen.out; omega) (by simp)).mono ?_
        rintro e w2 ⟨rfl, F2, hq2, hmv⟩
        rw [canS_two, HBv.out] at hq2 ⊢
        have hrow2 : w2.ownsRow 0 9 1 (.slice A6 xs.length c6) xs.length (strV xs) := row_only (HR.out.alloc _) hmv.only (fun g hg => (HD.out g hg).1)
        have hdis2 : ∀ g, (Value.slice A6 xs.length c6).ownBlock = some g → ¬ F2 g ∧ w.heap.size ≤ g := fun g hg => ⟨hmv.apart g (by have := (HR.out.lt g hg).2; simp; omega) (HD.out g hg).1, (HD.out g hg).2⟩
        have HQ2 := Lib.hid hq2
        have HR2 := Lib.hid hrow2
        have HD2 := Lib.hid hdis2
        clear hq2 hrow2 hdis2 hmv hqn
        dsimp only at HQ2
        go_wp2_with fail
        refine (que_at_none HQ2.out.que nm (others_hasN L nm)).mono ?_
        rintro e w' ⟨rfl, rfl⟩
        go_wp2_with fail
        refine (HQ2.out.que.len).mono ?_
        rintro e w' ⟨rfl, rfl⟩
        rw [show ((others L nm).length : Int) = (m : Int) by have := HmO.out; omega]
        go_wp2_with fail
        go_loopw [13] (fun vi wr => ∃ (k : Nat) (F : Nat → Prop), k ≤ m ∧ vi = .int .i64 k ∧ wr.ownsRow 0 9 1 (.slice A6 xs.length c6) xs.length (strV xs) ∧ QB w wr q F ((others L nm).drop k) ∧ (∀ g, (Value.slice A6 xs.length c6).ownBlock = some g → ¬ F g ∧ w.heap.size ≤ g))
          (fun vi _ => m - (intOf vi).toNat)
        case atStart => exact ⟨0, F2, Nat.zero_le _, rfl, HR2.out, HQ2.out, HD2.out⟩
        case round =>
          obtain ⟨k, F3, hk3, rfl, hrow3, hq3, hdis3⟩ := hrel
          have HQ3 := Lib.hid hq3
          have HR3 := Lib.hid hrow3
          have HD3 := Lib.hid hdis3
          clear hq3 hrow3 hdis3
          by_cases hkm : k < m
          · obtain ⟨d, hd, hdd⟩ : ∃ d, d ∈ others L nm ∧ (others L nm).drop k = d :: (others L nm).drop (k + 1) := by
              have hkl : k < (others L nm).length := by have := HmO.out; omega
              exact ⟨(others L nm)[k], List.getElem_mem hkl, (List.getElem_cons_drop hkl).symm⟩
            have hdb : d.2 ≤ 9223372036854775807 := HBd.out d (List.mem_filter.1 hd).1
            have hdn : d.1 ≠ nm := others_ne d hd
            rw [hdd] at HQ3
            have hno : ¬ hasN ((others L nm).drop (k + 1)) d.1 := by
              have hn := HQ3.out.que.names
              rintro ⟨x, hx, e⟩
              exact (List.nodup_cons.1 hn).1 (List.mem_map.2 ⟨x, hx, e⟩)
            have hlt : ((others L nm).drop (k + 1)).length < 4096 := by
              have h5 : (others L nm).length ≤ L.length := List.length_filter_le _ _
              have := HLen.out
              rw [List.length_drop]; omega
            generalize hL4 : (others L nm).drop (k + 1) = L4 at *
            have HL4 := Lib.hid hL4
            clear hL4
            obtain ⟨ds, dt⟩ := d
            have hds : (ds.toList == nm.toList) = false := by
              rw [← beq_toListBytes]; simpa using hdn
            have HNo := Lib.hid hno
            have HLt := Lib.hid hlt
            clear hno hlt hd hdn hdd
            dsimp only at hdb
            have hkc : decide ((k : Int) < (m : Int)) = true := by simp; omega
            have hkc2 : decide (k < m) = true := by simp; omega
            go_wp2_with fail
            refine (qb_pop HQ3.out (by simp only [List.length_cons]; have := HLt.out; omega) _).mono ?_
            rintro e w4 ⟨rfl, F4, hq4, hmv⟩
            have hpop : popS ((ds, dt) :: L4) 9223372036854775807 = (.tuple #[dueV (ds, dt), .bool true], L4) := if_pos hdb
            rw [hpop] at hq4 ⊢
            dsimp only [dueV] at hq4 ⊢
            have hrow4 : w4.ownsRow 0 9 1 (.slice A6 xs.length c6) xs.length (strV xs) := row_only HR3.out hmv.only (fun g hg => (HD3.out g hg).1)
            have hdis4 : ∀ g, (Value.slice A6 xs.length c6).ownBlock = some g → ¬ F4 g ∧ w.heap.size ≤ g := fun g hg => ⟨hmv.apart g (HR3.out.lt g hg).2 (HD3.out g hg).1, (HD3.out g hg).2⟩
            have hown := Own.new hq4 40 #[.string ds, .int .i64 dt]
            have HQ4 := Lib.hid (hq4.alloc (.cells #[.string ds, .int .i64 dt] 40))
            have HR4 := Lib.hid (hrow4.alloc (.cells #[.string ds, .int .i64 dt] 40))
            have HD4 := Lib.hid hdis4
            have HOwn := Lib.hid hown
            clear hq4 hrow4 hdis4 hown hmv hpop
            go_wp2_with fail
            refine (qb_set HQ4.out ds _ (.inr HLt.out) (by have := HLt.out; omega)).mono ?_
            rintro e w5 ⟨rfl, F5, hq5, hmv⟩
            have hrow5 : w5.ownsRow 0 9 1 (.slice A6 xs.length c6) xs.length (strV xs) := row_only HR4.out hmv.only (fun g hg => (HD4.out g hg).1)
            have hdis5 : ∀ g, (Value.slice A6 xs.length c6).ownBlock = some g → ¬ F5 g ∧ w.heap.size ≤ g := fun g hg => ⟨hmv.apart g (HR4.out.lt g hg).2 (HD4.out g hg).1, (HD4.out g hg).2⟩
            have hown5 := HOwn.out.move hmv
            have k0 := hown5.blk.cell 0
            simp only [List.getElem?_toArray, List.getElem?_cons_zero] at k0
            have hlt5 := hown5.blk.lt
            have HQ5 := Lib.hid hq5
            have HR5 := Lib.hid hrow5
            have HD5 := Lib.hid hdis5
            clear hq5 hrow5 hdis5 hown5 hmv
            go_wp2_with fail
            have hqn := HQ5.out.alloc (.cells #[.string ds] 9)
            refine (qb_cancel hqn (some ⟨w5.heap.size, 0, none⟩) [ds] 1 w5.heap.size (names_one ds) (fun _ hf => by have := HQ5.out.que.lt _ hf; omega) (by have := HLt.out; have := setS_len_le L4 ds (-9223372036854775808); omega) (by simp)).mono ?_
            rintro e w6 ⟨rfl, F6, hq6, hmv⟩
            rw [canS_set HQ4.out.que.ord HNo.out] at hq6
            have hrow6 : w6.ownsRow 0 9 1 (.slice A6 xs.length c6) xs.length (strV xs) := row_only (HR5.out.alloc _) hmv.only (fun g hg => (HD5.out g hg).1)
            have hdis6 : ∀ g, (Value.slice A6 xs.length c6).ownBlock = some g → ¬ F6 g ∧ w.heap.size ≤ g := fun g hg => ⟨hmv.apart g (by have := (HR5.out.lt g hg).2; simp; omega) (HD5.out g hg).1, (HD5.out g hg).2⟩
            have HQ6 := Lib.hid hq6
            have HR6 := Lib.hid hrow6
            have HD6 := Lib.hid hdis6
            clear hq6 hrow6 hdis6 hmv hqn k0
            go_wp2_with fail
            refine ⟨⟨k + 1, F6, by omega, by go_num, HR6.out, by rw [HL4.out]; exact HQ6.out, HD6.out⟩, by simp [intOf]; omega⟩
          · have hke2 : k = m := by omega
            subst hke2
            have hnil : (others L nm).drop (k) = [] := List.drop_eq_nil_of_le (by have := HmO.out; omega)
            rw [hnil] at HQ3
            go_wp2_with fail
            have hc := qb_cancel HQ3.out A6 (xs.map (·.name)) c6 _ (names_of_row HR3.out rfl) (fun h0 => by rw [List.length_map] at h0; exact (HD3.out _ (row_block HR3.out h0)).1) (by simp) (by rw [List.length_map]; omega)
            rw [List.length_map] at hc
            refine hc.mono ?_
            rintro e w4 ⟨rfl, F4, hq4, _⟩
            rw [canS_nil] at hq4 ⊢
            have HQ4 := Lib.hid hq4
            clear hq4 hc
            dsimp only at HQ4
            go_wp2_with fail
            refine (HQ4.out.que.len).mono ?_
            rintro e w' ⟨rfl, rfl⟩
            go_wp2_with fail
            refine (live_any _).mono ?_
            rintro e w9 ⟨rfl, hb⟩
            have HB := Lib.hid hb
            clear hb
            go_wp2_with fail
            go_ret
            exact ⟨rfl, HQ4.out.below.trans (HB.out.mono HQ4.out.below.size)⟩
      · have hm : L.length = m + 1 := by
          rw [← HmO.out, others_len HQ.out.que.names ((hasB_iff _ _).1 hbv)]
        have hmb : m + 1 ≤ 201 := by have := HLen.out; omega
        have Hm := Lib.hid hm
        have HBv := Lib.hid hbv
        clear hm hbv
        go_wp2_with fail
        refine (HQ.out.que.len).mono ?_
        rintro e w' ⟨rfl, rfl⟩
        rw [show (L.length : Int) = (m : Int) + 1 by have := Hm.out; omega]
        go_wp2_with fail
        have hqn := HQ.out.alloc (.cells #[.string nm, .string nm] 9)
        refine (qb_cancel hqn (some ⟨wr.heap.size, 0, none⟩) [nm, nm] 2 wr.heap.size (names_two nm nm) (fun _ hf => by have := HQ.out.que.lt _ hf; omega) (by have := HLen.out; omega) (by simp)).mono ?_
        rintro e w2 ⟨rfl, F2, hq2, hmv⟩
        rw [canS_two, HBv.out] at hq2 ⊢
        have hrow2 : w2.ownsRow 0 9 1 (.slice A6 xs.length c6) xs.length (strV xs) := row_only (HR.out.alloc _) hmv.only (fun g hg => (HD.out g hg).1)
        have hdis2 : ∀ g, (Value.slice A6 xs.length c6).ownBlock = some g → ¬ F2 g ∧ w.heap.size ≤ g := fun g hg => ⟨hmv.apart g (by have := (HR.out.lt g hg).2; simp; omega) (HD.out g hg).1, (HD.out g hg).2⟩
        have HQ2 := Lib.hid hq2
        have HR2 := Lib.hid hrow2
        have HD2 := Lib.hid hdis2
        clear hq2 hrow2 hdis2 hmv hqn
        dsimp only at HQ2
        go_wp2_with fail
        refine (que_at_none HQ2.out.que nm (others_hasN L nm)).mono ?_
        rintro e w' ⟨rfl, rfl⟩
        go_wp2_with fail
        refine (HQ2.out.que.len).mono ?_
        rintro e w' ⟨rfl, rfl⟩
        rw [show ((others L nm).length : Int) = (m : Int) by have := HmO.out; omega]
        go_wp2_with fail
        go_loopw [13] (fun vi wr => ∃ (k : Nat) (F : Nat → Prop), k ≤ m + 1 ∧ vi = .int .i64 k ∧ wr.ownsRow 0 9 1 (.slice A6 xs.length c6) xs.length (strV xs) ∧ QB w wr q F ((others L nm).drop k) ∧ (∀ g, (Value.slice A6 xs.length c6).ownBlock = some g → ¬ F g ∧ w.heap.size ≤ g))
          (fun vi _ => m + 1 - (intOf vi).toNat)
        case atStart => exact ⟨0, F2, Nat.zero_le _, rfl, HR2.out, HQ2.out, HD2.out⟩
        case round =>
          obtain ⟨k, F3, hk3, rfl, hrow3, hq3, hdis3⟩ := hrel
          have HQ3 := Lib.hid hq3
          have HR3 := Lib.hid hrow3
          have HD3 := Lib.hid hdis3
          clear hq3 hrow3 hdis3
          by_cases hkm : k < m
          · obtain ⟨d, hd, hdd⟩ : ∃ d, d ∈ others L nm ∧ (others L nm).drop k = d :: (others L nm).drop (k + 1) := by
              have hkl : k < (others L nm).length := by have := HmO.out; omega
              exact ⟨(others L nm)[k], List.getElem_mem hkl, (List.getElem_cons_drop hkl).symm⟩
            have hdb : d.2 ≤ 9223372036854775807 := HBd.out d (List.mem_filter.1 hd).1
            have hdn : d.1 ≠ nm := others_ne d hd
            rw [hdd] at HQ3
            have hno : ¬ hasN ((others L nm).drop (k + 1)) d.1 := by
              have hn := HQ3.out.que.names
              rintro ⟨x, hx, e⟩
              exact (List.nodup_cons.1 hn).1 (List.mem_map.2 ⟨x, hx, e⟩)
            have hlt : ((others L nm).drop (k + 1)).length < 4096 := by
              have h5 : (others L nm).length ≤ L.length := List.length_filter_le _ _
              have := HLen.out
              rw [List.length_drop]; omega
            generalize hL4 : (others L nm).drop (k + 1) = L4 at *
            have HL4 := Lib.hid hL4
            clear hL4
            obtain ⟨ds, dt⟩ := d
            have hds : (ds.toList == nm.toList) = false := by
              rw [← beq_toListBytes]; simpa using hdn
            have HNo := Lib.hid hno
            have HLt := Lib.hid hlt
            clear hno hlt hd hdn hdd
            dsimp only at hdb
            have hkc : decide ((k : Int) < (m : Int)) = true := by simp; omega
            have hkc2 : decide (k < m) = true := by simp; omega
            go_wp2_with fail
            refine (qb_pop HQ3.out (by simp only [List.length_cons]; have := HLt.out; omega) _).mono ?_
            rintro e w4 ⟨rfl, F4, hq4, hmv⟩
            have hpop : popS ((ds, dt) :: L4) 9223372036854775807 = (.tuple #[dueV (ds, dt), .bool true], L4) := if_pos hdb
            rw [hpop] at hq4 ⊢
            dsimp only [dueV] at hq4 ⊢
            have hrow4 : w4.ownsRow 0 9 1 (.slice A6 xs.length c6) xs.length (strV xs) := row_only HR3.out hmv.only (fun g hg => (HD3.out g hg).1)
            have hdis4 : ∀ g, (Value.slice A6 xs.length c6).ownBlock = some g → ¬ F4 g ∧ w.heap.size ≤ g := fun g hg => ⟨hmv.apart g (HR3.out.lt g hg).2 (HD3.out g hg).1, (HD3.out g hg).2⟩
            have hown := Own.new hq4 40 #[.string ds, .int .i64 dt]
            have HQ4 := Lib.hid (hq4.alloc (.cells #[.string ds, .int .i64 dt] 40))
            have HR4 := Lib.hid (hrow4.alloc (.cells #[.string ds, .int .i64 dt] 40))
            have HD4 := Lib.hid hdis4
            have HOwn := Lib.hid hown
            clear hq4 hrow4 hdis4 hown hmv hpop
            go_wp2_with fail
            refine (qb_set HQ4.out ds _ (.inr HLt.out) (by have := HLt.out; omega)).mono ?_
            rintro e w5 ⟨rfl, F5, hq5, hmv⟩
            have hrow5 : w5.ownsRow 0 9 1 (.slice A6 xs.length c6) xs.length (strV xs) := row_only HR4.out hmv.only (fun g hg => (HD4.out g hg).1)
            have hdis5 : ∀ g, (Value.slice A6 xs.length c6).ownBlock = some g → ¬ F5 g ∧ w.heap.size ≤ g := fun g hg => ⟨hmv.apart g (HR4.out.lt g hg).2 (HD4.out g hg).1, (HD4.out g hg).2⟩
            have hown5 := HOwn.out.move hmv
            have k0 := hown5.blk.cell 0
            simp only [List.getElem?_toArray, List.getElem?_cons_zero] at k0
            have hlt5 := hown5.blk.lt
            have HQ5 := Lib.hid hq5
            have HR5 := Lib.hid hrow5
            have HD5 := Lib.hid hdis5
            clear hq5 hrow5 hdis5 hown5 hmv
            go_wp2_with fail
            have hqn := HQ5.out.alloc (.cells #[.string ds] 9)
            refine (qb_cancel hqn (some ⟨w5.heap.size, 0, none⟩) [ds] 1 w5.heap.size (names_one ds) (fun _ hf => by have := HQ5.out.que.lt _ hf; omega) (by have := HLt.out; have := setS_len_le L4 ds (-9223372036854775808); omega) (by simp)).mono ?_
            rintro e w6 ⟨rfl, F6, hq6, hmv⟩
            rw [canS_set HQ4.out.que.ord HNo.out] at hq6
            have hrow6 : w6.ownsRow 0 9 1 (.slice A6 xs.length c6) xs.length (strV xs) := row_only (HR5.out.alloc _) hmv.only (fun g hg => (HD5.out g hg).1)
            have hdis6 : ∀ g, (Value.slice A6 xs.length c6).ownBlock = some g → ¬ F6 g ∧ w.heap.size ≤ g := fun g hg => ⟨hmv.apart g (by have := (HR5.out.lt g hg).2; simp; omega) (HD5.out g hg).1, (HD5.out g hg).2⟩
            have HQ6 := Lib.hid hq6
            have HR6 := Lib.hid hrow6
            have HD6 := Lib.hid hdis6
            clear hq6 hrow6 hdis6 hmv hqn k0
            go_wp2_with fail
            refine ⟨⟨k + 1, F6, by omega, by go_num, HR6.out, by rw [HL4.out]; exact HQ6.out, HD6.out⟩, by simp [intOf]; omega⟩
          · by_cases hkn2 : k < m + 1
            · have hkm' : k = m := by omega
              subst hkm'
              have hnil : (others L nm).drop k = [] := List.drop_eq_nil_of_le (by have := HmO.out; omega)
              rw [hnil] at HQ3
              have hkc : decide ((k : Int) < (k : Int)) = false := by simp
              go_wp2_with fail
              refine (qb_pop HQ3.out (by simp) _).mono ?_
              rintro e w4 ⟨rfl, F4, hq4, hmv⟩
              have hpop : popS [] 9223372036854775807 = (.tuple #[due0, .bool false], []) := rfl
              rw [hpop] at hq4 ⊢
              dsimp only [due0] at hq4 ⊢
              have hrow4 : w4.ownsRow 0 9 1 (.slice A6 xs.length c6) xs.length (strV xs) := row_only HR3.out hmv.only (fun g hg => (HD3.out g hg).1)
              have hdis4 : ∀ g, (Value.slice A6 xs.length c6).ownBlock = some g → ¬ F4 g ∧ w.heap.size ≤ g := fun g hg => ⟨hmv.apart g (HR3.out.lt g hg).2 (HD3.out g hg).1, (HD3.out g hg).2⟩
              have HQ4 := Lib.hid (hq4.alloc (.cells #[.string ⟨#[]⟩, .int .i64 0] 40))
              have HR4 := Lib.hid (hrow4.alloc (.cells #[.string ⟨#[]⟩, .int .i64 0] 40))
              have HD4 := Lib.hid hdis4
              clear hq4 hrow4 hdis4 hmv hpop
              go_wp2_with fail
              refine ⟨⟨k + 1, F4, by omega, by go_num, HR4.out, ?_, HD4.out⟩, by simp [intOf]⟩
              rw [List.drop_eq_nil_of_le (by have := HmO.out; omega)]
              exact HQ4.out
            · have hke2 : k = m + 1 := by omega
              subst hke2
              have hnil : (others L nm).drop (m + 1) = [] := List.drop_eq_nil_of_le (by have := HmO.out; omega)
              rw [hnil] at HQ3
              go_wp2_with fail
              have hc := qb_cancel HQ3.out A6 (xs.map (·.name)) c6 _ (names_of_row HR3.out rfl) (fun h0 => by rw [List.length_map] at h0; exact (HD3.out _ (row_block HR3.out h0)).1) (by simp) (by rw [List.length_map]; omega)
              rw [List.length_map] at hc
              refine hc.mono ?_
              rintro e w4 ⟨rfl, F4, hq4, _⟩
              rw [canS_nil] at hq4 ⊢
              have HQ4 := Lib.hid hq4
              clear hq4 hc
              dsimp only at HQ4
              go_wp2_with fail
              refine (HQ4.out.que.len).mono ?_
              rintro e w' ⟨rfl, rfl⟩
              go_wp2_with fail
              refine (live_any _).mono ?_
              rintro e w9 ⟨rfl, hb⟩
              have HB := Lib.hid hb
              clear hb
              go_wp2_with fail
              go_ret
              exact ⟨rfl, HQ4.out.below.trans (HB.out.mono HQ4.out.below.size)⟩

set_option maxRecDepth 100000 in
set_option maxHeartbeats 4000000 in
theorem canc_out (A : Option Addr) (n c : Nat) (nm : ByteArray) (w : World) (h : 200 < n ∨ 5000 < nm.size) :
    Calls Try.prog 4 #[.slice A n c, .string nm] w fun e w' => e = .returned (.bool true) ∧ Below w.heap.size w w' := by
  by_cases h1 : 200 < n
  · clear h
    go_enter Try.func4, Try.ntmps4
    go_wp2_with fail
    refine (live_any _).mono ?_
    rintro e w9 ⟨rfl, hb⟩
    have HB := Lib.hid hb
    clear hb
    go_wp2_with fail
    go_ret
    exact ⟨rfl, HB.out⟩
  · have h2 : 5000 < nm.size := by omega
    have h3 : n ≤ 200 := by omega
    clear h
    go_enter Try.func4, Try.ntmps4
    go_wp2_with fail
    refine (live_any _).mono ?_
    rintro e w9 ⟨rfl, hb⟩
    have HB := Lib.hid hb
    clear hb
    go_wp2_with fail
    go_ret
    exact ⟨rfl, HB.out⟩

theorem timerCancels_walk (A : Option Addr) (n c : Nat) (nm : ByteArray) (w : World) {H : Type} {enc : TypeId × Value → H} {d : DataW H} {p : List MemPlace} (k : DataW.Trod enc Try.prog w 0 (fun _ => true) true 32 (.slice A n c) d p) (_ : nm.size ≤ maxLen) :
    Calls Try.prog 4 #[.slice A n c, .string nm] w fun e w' => e = .returned (.bool true) ∧ Below w.heap.size w w' := by
  obtain ⟨xs, hl, hA⟩ := acts_of k
  by_cases h : 200 < n ∨ 5000 < nm.size
  · exact canc_out A n c nm w h
  · subst hl
    exact canc_any A c xs nm w hA (by omega) (by omega)
end Go.Proofs.Ytannmemocaibiaa
