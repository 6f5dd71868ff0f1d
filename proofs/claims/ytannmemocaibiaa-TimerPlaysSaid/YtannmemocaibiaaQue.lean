/-
  A queue of timers in memory; the walks of Set.
-/
import Derived.Test.YtannmemocaibiaaFix
namespace Go.Proofs.Ytannmemocaibiaa
open Go.RowKit

def rptr (r : Row) : Value := .pointer (some ⟨r.p, 0, none⟩)
structure QRep (w : World) (q m : Nat) (sv : Value) (f : List (ByteArray × Value)) (rows : List Row) : Prop where
  heap : HeapAt w q m sv rows
  map : SMap w m f
  uniq : Uniq f
  look : ∀ s v, slook f s = some v ↔ ∃ r ∈ rows, r.name = s ∧ v = rptr r
def Qfp (q m : Nat) (sv : Value) (rows : List Row) (k : Nat) : Prop := k = q ∨ k = m ∨ Hfp sv rows k

theorem QRep.m_ne_q {w : World} {q m : Nat} {sv : Value} {f : List (ByteArray × Value)} {rows : List Row} (h : QRep w q m sv f rows) : m ≠ q := h.map.ne_blk h.heap.q
theorem QRep.m_not {w : World} {q m : Nat} {sv : Value} {f : List (ByteArray × Value)} {rows : List Row} (h : QRep w q m sv f rows) : ¬ Hfp sv rows m := by
  rintro (e | ⟨r, hr, e⟩)
  · have := h.heap.row
    rcases this.2 with ⟨rfl, _⟩ | ⟨g, cap, cur, rfl, _, hh, _⟩
    · simp [Value.ownBlock] at e
    · have : g = m := by simpa [Value.ownBlock] using e
      subst this
      exact h.map.ne_blk (t := 64) hh rfl
  · obtain ⟨i, hi⟩ := List.mem_iff_getElem?.1 hr
    exact h.map.ne_blk (h.heap.ones i r hi) e.symm
theorem QRep.below {w w' : World} {q m : Nat} {sv : Value} {f : List (ByteArray × Value)} {rows : List Row} (h : QRep w q m sv f rows) (hb : Below w.heap.size w w') : QRep w' q m sv f rows :=
  ⟨h.heap.below hb, h.map.of_block (hb.block m h.map.lt), h.uniq, h.look⟩
theorem QRep.only {F : Nat → Prop} {w w' : World} {q m : Nat} {sv : Value} {f : List (ByteArray × Value)} {rows : List Row} (h : QRep w q m sv f rows) (hb : Only F w w') (hF : ∀ k, Qfp q m sv rows k → ¬ F k) : QRep w' q m sv f rows :=
  ⟨h.heap.only hb (fun k hk => hF k (by rcases hk with e | e; exact .inl e; exact .inr (.inr e))), h.map.only hb (hF m (.inr (.inl rfl))), h.uniq, h.look⟩
theorem QRep.names {w : World} {q m : Nat} {sv : Value} {f : List (ByteArray × Value)} {rows : List Row} (h : QRep w q m sv f rows) {i j : Nat} {r r' : Row} (hi : rows[i]? = some r) (hj : rows[j]? = some r') (hn : r.name = r'.name) : i = j := by
  have h1 := (h.look r.name (rptr r)).2 ⟨r, List.mem_iff_getElem?.2 ⟨i, hi⟩, rfl, rfl⟩
  have h2 := (h.look r.name (rptr r')).2 ⟨r', List.mem_iff_getElem?.2 ⟨j, hj⟩, hn.symm, rfl⟩
  rw [h1] at h2
  simp only [rptr, Option.some.injEq, Value.pointer.injEq, Addr.mk.injEq, and_true] at h2
  exact h.heap.ones.inj hi hj h2

theorem zero64 (w : World) : (zeroValue 64).run Try.prog w = .ok (.pointer none) w := by kernel_rfl
theorem run_look {w : World} {m : Nat} {f : List (ByteArray × Value)} (h : SMap w m f) (s : ByteArray) :
    (Instr.lookup 59 (.map (some m)) (.string s) true).run Try.prog w = .ok (.tuple #[(slook f s).getD (.pointer none), .bool (slook f s).isSome]) w := by
  have := run_lookup_string Try.underlying59 Try.underlying9 (zero64 w) h s true
  simpa using this

set_option maxRecDepth 100000 in
set_option maxHeartbeats 2000000 in
theorem set_found_cells (q m p i : Nat) (name s : ByteArray) (a x : Int) (sv : Value) (f : List (ByteArray × Value)) (rows1 : List Row) (w : World) (hq : Blk w q 63 #[sv, .map (some m)]) (hm : SMap w m f) (hf : slook f name = some (.pointer (some ⟨p, 0, none⟩)))
    (hp : Blk w p 67 #[.string s, .int .i64 x, .int .i64 i]) (h1 : HeapAt (w.setCell ⟨p, 1, none⟩ (.int .i64 a)) q m sv rows1) (hi : i < rows1.length) (hn : rows1.length ≤ 1000000) :
    Calls Try.prog 11 #[.pointer (some ⟨q, 0, none⟩), .string name, .int .i64 a] w fun e w' => e = .returned (.int .i64 0) ∧ HeapAt w' q m sv (fixL rows1 i rows1.length) ∧ Only (Hfp sv rows1) (w.setCell ⟨p, 1, none⟩ (.int .i64 a)) w' := by
  have hlk := run_look hm name
  rw [hf] at hlk
  simp only [Option.getD_some, Option.isSome_some] at hlk
  have n1 : q ≠ p := Blk.ne_ hq hp (by decide)
  have c1 := hq.cell 1
  have c2 := hp.cell 1
  have f2 := hp.frozen 1
  have c3 := hp.cell 2
  simp only [List.getElem?_toArray, List.getElem?_cons_succ, List.getElem?_cons_zero] at c1 c2 c3
  have HQ := Lib.hid hq
  have HP := Lib.hid hp
  have H1 := Lib.hid h1
  clear hq hp h1 hm hf
  go_enter Try.func11, Try.ntmps11
  go_wp2_with fail
  generalize hW : w.setCell ⟨p, 1, none⟩ (.int .i64 a) = W
  have c3' : W.cell? ⟨p, 2, none⟩ = some (.int .i64 i) := by rw [← hW]; exact (HP.out.set_ 1 (.int .i64 a)).cell 2
  have HW := Lib.hid hW
  clear hW c1 c2 c3 f2 hlk
  refine region_tail 8 (by kernel_rfl) (by kernel_rfl) ?_
  simp only [List.take_succ_cons, List.take_zero, List.drop_succ_cons, List.drop_zero]
  repeat still_step
  refine wpStill_nil ?_
  go_wp2_with fail
  refine (fix_any q m sv rows1 i W.drew (by rw [← HW.out]; exact H1.out.below ((Below.refl _ _).drew)) hi hn).mono ?_
  rintro e w1 ⟨rfl, h2, hO⟩
  have H2 := Lib.hid h2
  have HO := Lib.hid hO
  clear h2 hO
  go_wp2_with fail
  go_ret
  exact ⟨rfl, H2.out, by rw [HW.out]; exact (Only.refl _ W).drew.trans HO.out (fun _ _ h => h)⟩

set_option maxRecDepth 100000 in
set_option maxHeartbeats 2000000 in
theorem set_full (q m : Nat) (name : ByteArray) (a : Int) (sv : Value) (f : List (ByteArray × Value)) (rows : List Row) (w : World) (h : QRep w q m sv f rows) (hf : ∀ r ∈ rows, r.name ≠ name) (hn : 4096 ≤ rows.length) :
    Calls Try.prog 11 #[.pointer (some ⟨q, 0, none⟩), .string name, .int .i64 a] w fun e w' => e = .returned (.int .i64 6) ∧ w = w' := by
  have hlk := run_look h.map name
  have hf' : slook f name = none := by
    cases hs : slook f name with
    | none => rfl
    | some v => obtain ⟨r, hr, hn, _⟩ := (h.look name v).1 hs; exact absurd hn (hf r hr)
  rw [hf'] at hlk
  simp only [Option.getD_none, Option.isSome_none] at hlk
  obtain ⟨A, c, rfl⟩ := row_slice h.heap.row
  have c1 := h.heap.q.cell 1
  have c0 := h.heap.q.cell 0
  simp only [List.getElem?_toArray, List.getElem?_cons_succ, List.getElem?_cons_zero] at c1 c0
  clear h hf hf'
  go_enter Try.func11, Try.ntmps11
  go_wp2_with fail
  go_ret
  exact ⟨rfl, rfl⟩

set_option maxRecDepth 100000 in
set_option maxHeartbeats 2000000 in
theorem set_new_cells (q m n c : Nat) (A : Option Addr) (name : ByteArray) (a : Int) (f : List (ByteArray × Value)) (rows : List Row) (w : World) (h : QRep w q m (.slice A n c) f rows) (hnn : n = rows.length) (hf : slook f name = none) (hn : n < 4096) (v2 : Value) (hv2 : v2 = .pointer (some ⟨w.heap.size, 0, none⟩)) :
    Calls Try.prog 11 #[.pointer (some ⟨q, 0, none⟩), .string name, .int .i64 a] w fun e w' => e = .returned (.int .i64 0) ∧
      ∃ sv' o, SMap (setO (w.alloc (.cells #[.string name, .int .i64 a, .int .i64 0] 67)) m o) m (sput f name v2) ∧
      HeapAt w' q m sv' (upL (rows ++ [⟨w.heap.size, name, a⟩]) rows.length) ∧ Only (fun k => Hfp (.slice A n c) rows k ∨ k = q ∨ k = w.heap.size) (setO (w.alloc (.cells #[.string name, .int .i64 a, .int .i64 0] 67)) m o) w' ∧ (sv'.ownBlock = (Value.slice A n c).ownBlock ∨ ∃ k, sv'.ownBlock = some k ∧ w.heap.size < k) := by
  have hlk := run_look h.map name
  rw [hf] at hlk
  simp only [Option.getD_none, Option.isSome_none] at hlk
  have c1 := h.heap.q.cell 1
  have c0 := h.heap.q.cell 0
  simp only [List.getElem?_toArray, List.getElem?_cons_succ, List.getElem?_cons_zero] at c1 c0
  obtain ⟨o, hup, hsm⟩ := run_mapUpdate_string Try.underlying59 Try.underlying9 (h.map.of_block (w' := w.alloc (.cells #[.string name, .int .i64 a, .int .i64 0] 67)) (Below.heap_alloc w _ m h.map.lt)) h.uniq name v2
  have H := Lib.hid h
  have HV := Lib.hid hv2
  have Hnn := Lib.hid hnn
  have Hsm := Lib.hid hsm
  rw [hv2] at hup
  clear h hf hnn hsm hv2
  have hql := H.out.heap.q.lt
  generalize hW : w.alloc (.cells #[.string name, .int .i64 a, .int .i64 0] 67) = W at *
  have hp : Blk W w.heap.size 67 #[.string name, .int .i64 a, .int .i64 0] := by rw [← hW]; exact Blk.new _ _ _
  have hB : Below w.heap.size w W := by rw [← hW]; exact (Below.refl _ _).alloc (Nat.le_refl _) _
  have hm1 : m ≠ w.heap.size := Nat.ne_of_lt H.out.map.lt
  have hO : Only (· = m) W (setO W m o) := setO_only o
  have hh : HeapAt (setO W m o) q m (.slice A n c) rows := (H.out.heap.below hB).only hO (by
    rintro k (e | e) e'
    · exact H.out.m_ne_q (e'.symm.trans e)
    · exact H.out.m_not (by rw [← e']; exact e))
  have hp2 : Blk (setO W m o) w.heap.size 67 #[.string name, .int .i64 a, .int .i64 0] := hp.only hO (Ne.symm hm1)
  have hfr : ∀ r ∈ rows, r.p ≠ w.heap.size := fun r hr => by
    obtain ⟨i, hi⟩ := List.mem_iff_getElem?.1 hr
    exact Nat.ne_of_lt (H.out.heap.ones i r hi).lt
  have d1 := hh.q.cell 1
  simp only [List.getElem?_toArray, List.getElem?_cons_succ, List.getElem?_cons_zero] at d1
  have hWs : w.heap.size < W.heap.size := hp.lt
  have d2 : W.cell? ⟨q, 1, none⟩ = some (.map (some m)) := (H.out.heap.q.below' hB).cell 1
  have HHh := Lib.hid hh
  have HP2 := Lib.hid hp2
  have HFR := Lib.hid hfr
  have HO := Lib.hid hO
  have HM1 := Lib.hid hm1
  have HBel := Lib.hid hB
  have HP := Lib.hid hp
  clear hh hp2 hfr hO hm1 hB hp
  rw [← hW] at hup d2
  have HWW := Lib.hid hW
  clear hW
  go_enter Try.func11, Try.ntmps11
  go_wp2_with fail
  rw [HWW.out]
  refine (hpush_any q m w.heap.size (.slice A n c) rows name a _ (setO W m o) HHh.out HP2.out (by rw [← Hnn.out]; omega) HFR.out).mono ?_
  rintro e w1 ⟨rfl, sv', h1, hO1, hat⟩
  have H1 := Lib.hid h1
  have HO1 := Lib.hid hO1
  have Hat := Lib.hid hat
  clear h1 hO1 hat hup d1 d2
  go_wp2_with fail
  go_ret
  refine ⟨rfl, sv', o, Hsm.out, H1.out, HO1.out, ?_⟩
  rcases Hat.out with e | ⟨k, e, hk⟩
  · exact .inl e
  · rw [setO_size] at hk; exact .inr ⟨k, e, by omega⟩

/-! ### Over the rows -/
theorem mem_of_getD {rows : List Row} {i : Nat} (hi : i < rows.length) : rows.getD i default ∈ rows := by simp [hi]

theorem set_found (q m i : Nat) (name : ByteArray) (a : Int) (sv : Value) (f : List (ByteArray × Value)) (rows : List Row) (r : Row) (w : World) (h : QRep w q m sv f rows) (hr : rows[i]? = some r) (hrn : r.name = name) (hn : rows.length ≤ 1000000) :
    Calls Try.prog 11 #[.pointer (some ⟨q, 0, none⟩), .string name, .int .i64 a] w fun e w' => e = .returned (.int .i64 0) ∧
      QRep w' q m sv f (fixL (rows.set i { r with tm := a }) i rows.length) ∧ Only (Qfp q m sv rows) w w' := by
  subst hrn
  have hi : i < rows.length := (List.getElem?_eq_some_iff.1 hr).1
  have hb := h.heap.ones i r hr
  have hl := (h.look r.name (rptr r)).2 ⟨r, List.mem_iff_getElem?.2 ⟨i, hr⟩, rfl, rfl⟩
  have hptr : ptrs (rows.set i { r with tm := a }) = ptrs rows := by
    refine List.ext_getElem? fun k => ?_
    simp only [ptrs, List.getElem?_map, List.getElem?_set]
    by_cases hk : i = k
    · subst hk; simp [hi]; obtain ⟨_, hg⟩ := List.getElem?_eq_some_iff.1 hr; rw [hg]
    · rw [if_neg hk]
  have hlen : (rows.set i { r with tm := a }).length = rows.length := by simp
  have hO1 : Only (Hfp sv rows) w (w.setCell ⟨r.p, 1, none⟩ (.int .i64 a)) := (Only.refl _ w).setCell (p := ⟨r.p, 1, none⟩) (fun _ => .inr ⟨r, List.mem_iff_getElem?.2 ⟨i, hr⟩, rfl⟩) _
  have h1 : HeapAt (w.setCell ⟨r.p, 1, none⟩ (.int .i64 a)) q m sv (rows.set i { r with tm := a }) := by
    refine ⟨h.heap.q.far (p := ⟨r.p, 1, none⟩) (Blk.ne_ h.heap.q hb (by decide)) _, ?_, ?_⟩
    · rw [hptr, hlen]; exact row_far h.heap.row (p := ⟨r.p, 1, none⟩) (own_blk_ne h.heap.row hb (by decide)) _
    · intro k r' hk
      rw [List.getElem?_set] at hk
      by_cases hki : i = k
      · subst hki
        rw [if_pos rfl, if_pos hi] at hk
        injection hk with hk
        subst hk
        exact hb.set_ 1 _
      · rw [if_neg hki] at hk
        exact (h.heap.ones k r' hk).far (p := ⟨r.p, 1, none⟩) (fun e => hki (h.heap.ones.inj hr hk e.symm)) _
  have hmem : ∀ r', r' ∈ fixL (rows.set i { r with tm := a }) i rows.length ↔ r' ∈ rows.set i { r with tm := a } := fun r' => fixL_mem _ _ _ (by rw [hlen]; exact hi) (by rw [hlen]; exact Nat.le_refl _) r'
  have hp2 : ∀ r', r' ∈ rows.set i { r with tm := a } → ∃ r'' ∈ rows, r''.name = r'.name ∧ r''.p = r'.p := by
    intro r' hr'
    obtain ⟨k, hk⟩ := List.mem_iff_getElem?.1 hr'
    rw [List.getElem?_set] at hk
    by_cases hki : i = k
    · subst hki
      rw [if_pos rfl, if_pos hi] at hk
      injection hk with hk
      subst hk
      exact ⟨r, List.mem_iff_getElem?.2 ⟨i, hr⟩, rfl, rfl⟩
    · rw [if_neg hki] at hk
      exact ⟨r', List.mem_iff_getElem?.2 ⟨k, hk⟩, rfl, rfl⟩
  have hp3 : ∀ r'', r'' ∈ rows → ∃ r' ∈ rows.set i { r with tm := a }, r'.name = r''.name ∧ r'.p = r''.p := by
    intro r'' hr''
    obtain ⟨k, hk⟩ := List.mem_iff_getElem?.1 hr''
    by_cases hki : i = k
    · subst hki
      rw [hr] at hk
      injection hk with hk
      subst hk
      exact ⟨{ r with tm := a }, List.mem_iff_getElem?.2 ⟨i, by rw [List.getElem?_set, if_pos rfl, if_pos hi]⟩, rfl, rfl⟩
    · exact ⟨r'', List.mem_iff_getElem?.2 ⟨k, by rw [List.getElem?_set, if_neg hki]; exact hk⟩, rfl, rfl⟩
  have hfp : ∀ k, Hfp sv (rows.set i { r with tm := a }) k → Hfp sv rows k := by
    rintro k (e | ⟨r', hr', e⟩)
    · exact .inl e
    · obtain ⟨r'', h1, _, h3⟩ := hp2 r' hr'
      exact .inr ⟨r'', h1, h3.trans e⟩
  refine (set_found_cells q m r.p i r.name r.name a r.tm sv f _ w h.heap.q h.map hl hb h1 (by rw [hlen]; exact hi) (by rw [hlen]; exact hn)).mono ?_
  rintro e w1 ⟨rfl, h2, hO⟩
  rw [hlen] at h2
  have hO2 : Only (Hfp sv rows) w w1 := hO1.trans hO (fun k _ hk => hfp k hk)
  refine ⟨rfl, ⟨h2, h.map.only hO2 h.m_not, h.uniq, fun s v => ?_⟩, hO2.mono (fun k _ hk => .inr (.inr hk))⟩
  rw [h.look]
  constructor
  · rintro ⟨r'', h1, h3, h4⟩
    obtain ⟨r', g1, g2, g3⟩ := hp3 r'' h1
    exact ⟨r', (hmem r').2 g1, g2.trans h3, by rw [h4]; simp [rptr, g3]⟩
  · rintro ⟨r', h1, h3, h4⟩
    obtain ⟨r'', g1, g2, g3⟩ := hp2 r' ((hmem r').1 h1)
    exact ⟨r'', g1, g2.trans h3, by rw [h4]; simp [rptr, g3]⟩

theorem slook_sput (f : List (ByteArray × Value)) (s t : ByteArray) (v : Value) (h : slook f s = none) : slook (sput f s v) t = if t = s then some v else slook f t := by
  have hn : f.any (fun x => s == x.1) = false := by
    rw [any_of_findIdx]
    unfold slook at h
    rw [find_of_findIdx] at h
    cases hi : f.findIdx? (fun x => s == x.1) with
    | none => rfl
    | some j =>
      rw [hi] at h
      have hj : j < f.length := (List.findIdx?_eq_some_iff_findIdx_eq.1 hi).1
      simp [hj] at h
  unfold sput slook
  rw [hn]
  simp only [Bool.false_eq_true, if_false, List.find?_append]
  by_cases ht : t = s
  · subst ht
    have : f.find? (fun x => t == x.1) = none := by
      rw [List.find?_eq_none]
      intro x hx he
      have := (List.any_eq_true (p := fun x => t == x.1)).2 ⟨x, hx, he⟩
      rw [hn] at this; cases this
    simp [this]
  · simp [ht]

theorem set_new (q m : Nat) (name : ByteArray) (a : Int) (sv : Value) (f : List (ByteArray × Value)) (rows : List Row) (w : World) (h : QRep w q m sv f rows) (hf : ∀ r ∈ rows, r.name ≠ name) (hn : rows.length < 4096) :
    Calls Try.prog 11 #[.pointer (some ⟨q, 0, none⟩), .string name, .int .i64 a] w fun e w' => e = .returned (.int .i64 0) ∧
      ∃ sv' f', QRep w' q m sv' f' (upL (rows ++ [⟨w.heap.size, name, a⟩]) rows.length) ∧ Only (Qfp q m sv rows) w w' ∧
        (∀ k, Qfp q m sv' (upL (rows ++ [⟨w.heap.size, name, a⟩]) rows.length) k → Qfp q m sv rows k ∨ w.heap.size ≤ k) := by
  have hf' : slook f name = none := by
    cases hs : slook f name with
    | none => rfl
    | some v => obtain ⟨r, hr, hn, _⟩ := (h.look name v).1 hs; exact absurd hn (hf r hr)
  obtain ⟨A, c, rfl⟩ := row_slice h.heap.row
  refine (set_new_cells q m rows.length c A name a f rows w h rfl hf' hn _ rfl).mono ?_
  rintro e w1 ⟨rfl, sv', o, hsm, h1, hO1, hat⟩
  have hO0 : Only (Qfp q m (.slice A rows.length c) rows) w (setO (w.alloc (.cells #[.string name, .int .i64 a, .int .i64 0] 67)) m o) :=
    ((Only.refl _ w).alloc _).trans (setO_only o) (fun k _ e => .inr (.inl e))
  have hO : Only (Qfp q m (.slice A rows.length c) rows) w w1 := hO0.trans hO1 (by
    rintro k hk (e | e | e)
    · exact .inr (.inr e)
    · exact .inl e
    · omega)
  have hml := h.map.lt
  refine ⟨rfl, sv', _, ⟨h1, hsm.only hO1 ?_, sput_uniq h.uniq _ _, fun s v => ?_⟩, hO, ?_⟩
  · rintro (e | e | e)
    · exact h.m_not e
    · exact h.m_ne_q e
    · omega
  · rw [slook_sput _ _ _ _ hf']
    by_cases hs : s = name
    · subst hs
      rw [if_pos rfl]
      constructor
      · intro e
        injection e with e
        exact ⟨⟨w.heap.size, s, a⟩, (upL_mem _ _ (by simp) _).2 (by simp), rfl, e.symm⟩
      · rintro ⟨r, hr, h3, h4⟩
        rw [upL_mem _ _ (by simp)] at hr
        rcases List.mem_append.1 hr with hr | hr
        · exact absurd h3 (hf r hr)
        · simp only [List.mem_singleton] at hr; subst hr; rw [h4]; rfl
    · rw [if_neg hs, h.look]
      constructor
      · rintro ⟨r, hr, h3, h4⟩
        exact ⟨r, (upL_mem _ _ (by simp) _).2 (List.mem_append_left _ hr), h3, h4⟩
      · rintro ⟨r, hr, h3, h4⟩
        rw [upL_mem _ _ (by simp)] at hr
        rcases List.mem_append.1 hr with hr | hr
        · exact ⟨r, hr, h3, h4⟩
        · simp only [List.mem_singleton] at hr; subst hr; exact absurd h3.symm hs
  · rintro k (e | e | e | ⟨r, hr, e⟩)
    · exact .inl (.inl e)
    · exact .inl (.inr (.inl e))
    · rcases hat with h5 | ⟨k', h5, h6⟩
      · exact .inl (.inr (.inr (.inl (by rw [← h5]; exact e))))
      · rw [h5] at e; injection e with e; exact .inr (by omega)
    · rw [upL_mem _ _ (by simp)] at hr
      rcases List.mem_append.1 hr with hr | hr
      · exact .inl (.inr (.inr (.inr ⟨r, hr, e⟩)))
      · simp only [List.mem_singleton] at hr; subst hr; exact .inr (Nat.le_of_eq e)
end Go.Proofs.Ytannmemocaibiaa
