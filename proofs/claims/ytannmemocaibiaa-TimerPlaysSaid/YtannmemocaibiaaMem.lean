/-
  Plain words for memory: worlds that agree but for some blocks; a block known whole; a map whose keys are strings. No program.
-/
import Derived.Below
import Derived.Laws.OwnMore
import Derived.Deep.AppendLies
import Derived.Deep.Draws
import Derived.Laws.Rows
import Derived.WalkKit
namespace Go.Proofs.Ytannmemocaibiaa
open Go.RowKit

theorem bytes_ext {a b : ByteArray} (h : a.toList = b.toList) : a = b := by
  rw [ByteArray.toList_eq, ByteArray.toList_eq] at h
  obtain ⟨⟨x⟩⟩ := a
  obtain ⟨⟨y⟩⟩ := b
  simp only at h
  rw [h]
instance bytesLawful : LawfulBEq ByteArray where
  eq_of_beq h := bytes_ext (eq_of_beq (by rw [← beq_toListBytes]; exact h))
  rfl {a} := by rw [beq_toListBytes]; exact beq_self_eq_true _

structure Only (F : Nat → Prop) (w w' : World) : Prop where
  os : w'.os = w.os
  tape : w'.tape = w.tape
  output : w'.output = w.output
  size : w.heap.size ≤ w'.heap.size
  block : ∀ k, k < w.heap.size → ¬ F k → w'.heap[k]? = w.heap[k]?

section
variable {F G : Nat → Prop} {w w' w'' : World}
theorem Only.refl (F : Nat → Prop) (w : World) : Only F w w := ⟨rfl, rfl, rfl, Nat.le_refl _, fun _ _ _ => rfl⟩
theorem Only.trans (h : Only F w w') (h' : Only G w' w'') (hG : ∀ k, k < w.heap.size → G k → F k) : Only F w w'' :=
  ⟨h'.os.trans h.os, h'.tape.trans h.tape, h'.output.trans h.output, Nat.le_trans h.size h'.size,
    fun k hk hn => (h'.block k (Nat.lt_of_lt_of_le hk h.size) (fun g => hn (hG k hk g))).trans (h.block k hk hn)⟩
theorem Only.mono (h : Only F w w') (hG : ∀ k, k < w.heap.size → F k → G k) : Only G w w' := (Only.refl G w).trans h hG
theorem Only.of_below (h : Below w.heap.size w w') : Only F w w' := ⟨h.os, h.tape, h.output, h.size, fun k hk _ => h.block k hk⟩
theorem Only.drew (h : Only F w w') : Only F w w'.drew := ⟨h.os, h.tape, h.output, h.size, h.block⟩
theorem Only.drewN (h : Only F w w') (n : Nat) : Only F w (w'.drewN n) := ⟨h.os, h.tape, h.output, h.size, h.block⟩
theorem Only.alloc (h : Only F w w') (o : Obj) : Only F w (w'.alloc o) :=
  ⟨h.os, h.tape, h.output, Nat.le_trans h.size (by simp), fun k hk hn => (Below.heap_alloc w' o k (Nat.lt_of_lt_of_le hk h.size)).trans (h.block k hk hn)⟩
theorem Only.setCell (h : Only F w w') {p : Addr} (hp : p.block < w.heap.size → F p.block) (u : Value) : Only F w (w'.setCell p u) :=
  ⟨h.os, h.tape, h.output, Nat.le_trans h.size (by simp [World.setCell]), fun k hk hn => by
    rw [Below.heap_setCell w' p u k (fun e => by subst e; exact hn (hp hk))]
    exact h.block k hk hn⟩
theorem Only.below {B : Nat} (h : Only F w w') (hF : ∀ k, F k → B ≤ k) (hB : B ≤ w.heap.size) : Below B w w' :=
  ⟨h.os, h.tape, h.output, h.size, fun k hk => h.block k (by omega) (fun f => by have := hF k f; omega)⟩
theorem Only.grown {row : Option Nat} (h : Only F w w') (hg : w'.grownBy w'' row) (hr : ∀ k, row = some k → k < w.heap.size → F k) : Only F w w'' :=
  ⟨hg.os.trans h.os, hg.tape.trans h.tape, hg.output.trans h.output, Nat.le_trans h.size hg.size,
    fun k hk hn => (hg.block k (Nat.lt_of_lt_of_le hk h.size) (fun e => hn (hr k e.symm hk))).trans (h.block k hk hn)⟩
end

/-- A block that is known whole: just these cells, of this element type, none frozen. -/
def Blk (w : World) (g : Nat) (t : TypeId) (cs : Array Value) : Prop := w.heap[g]? = some (.cells cs t (0, 0))

section
variable {w w' : World} {g : Nat} {t : TypeId} {cs : Array Value}
theorem Blk.lt (h : Blk w g t cs) : g < w.heap.size := by
  rcases Nat.lt_or_ge g w.heap.size with hlt | hge
  · exact hlt
  · unfold Blk at h; rw [Array.getElem?_eq_none hge] at h; cases h
theorem Blk.cell (h : Blk w g t cs) (i : Nat) : w.cell? ⟨g, i, none⟩ = cs[i]? := cell_of_row w g i cs t (0, 0) h
theorem Blk.frozen (h : Blk w g t cs) (i : Nat) : w.frozen? ⟨g, i, none⟩ = false := by
  unfold Blk at h
  simp [World.frozen?, h]
theorem Blk.new (w : World) (t : TypeId) (cs : Array Value) : Blk (w.alloc (.cells cs t)) w.heap.size t cs := heap_alloc_new w _
theorem Blk.drew (h : Blk w g t cs) : Blk w.drew g t cs := h
theorem Blk.drewN (h : Blk w g t cs) (n : Nat) : Blk (w.drewN n) g t cs := h
theorem Blk.alloc (h : Blk w g t cs) (o : Obj) : Blk (w.alloc o) g t cs := (Below.heap_alloc w o g h.lt).trans h
theorem Blk.set_ (h : Blk w g t cs) (i : Nat) (u : Value) : Blk (w.setCell ⟨g, i, none⟩ u) g t (cs.setIfInBounds i u) := by
  unfold Blk at h ⊢
  simp [World.setCell, Array.getElem?_modify, h]
theorem Blk.far (h : Blk w g t cs) {p : Addr} (hp : g ≠ p.block) (u : Value) : Blk (w.setCell p u) g t cs := (Below.heap_setCell w p u g hp).trans h
theorem Blk.only {F : Nat → Prop} (h : Blk w g t cs) (hb : Only F w w') (hg : ¬ F g) : Blk w' g t cs := (hb.block g h.lt hg).trans h
theorem Blk.below {B : Nat} (h : Blk w g t cs) (hb : Below B w w') (hg : g < B) : Blk w' g t cs := (hb.block g hg).trans h
theorem Blk.below' (h : Blk w g t cs) (hb : Below w.heap.size w w') : Blk w' g t cs := (hb.block g h.lt).trans h
theorem Blk.grown {row : Option Nat} (h : Blk w g t cs) (hb : w.grownBy w' row) (hg : some g ≠ row) : Blk w' g t cs := (hb.block g h.lt hg).trans h
theorem Blk.ne_ {g' : Nat} {t' : TypeId} {cs' : Array Value} (h : Blk w g t cs) (h' : Blk w g' t' cs') (hne : t ≠ t') : g ≠ g' := by
  rintro rfl
  unfold Blk at h h'
  rw [h] at h'
  injection h' with h'
  injection h' with _ ht
  exact hne ht
theorem Blk.eq_ {cs' : Array Value} {t' : TypeId} (h : Blk w g t cs) (h' : Blk w g t' cs') : cs = cs' := by
  unfold Blk at h h'
  rw [h] at h'
  injection h' with h'
  injection h' with hc _
end

theorem own_blk_ne {w : World} {g : Nat} {t : TypeId} {cs : Array Value} {base : Nat} {e : TypeId} {size n : Nat} {v : Value} {xs : List Value} (h : w.ownsRow base e size v n xs) (hg : Blk w g t cs) (hne : e ≠ t) : v.ownBlock ≠ some g := by
  rcases h.2 with ⟨rfl, _⟩ | ⟨g', cap, cur, rfl, _, hh, _⟩
  · simp [Value.ownBlock]
  · intro he
    have : g' = g := by simpa [Value.ownBlock] using he
    subst this
    exact Blk.ne_ (t := e) hh hg hne rfl

/-- A block that is a map with string keys, as the list of its entries in the order in which they came. -/
def SMap (w : World) (m : Nat) (f : List (ByteArray × Value)) : Prop :=
  ∃ es c, w.heap[m]? = some (.map es c) ∧ es.toList.map (fun e => (e.key, e.val)) = f.map (fun x => (Value.string x.1, x.2))

def slook (f : List (ByteArray × Value)) (s : ByteArray) : Option Value := (f.find? (fun x => s == x.1)).map (·.2)
def sput (f : List (ByteArray × Value)) (s : ByteArray) (v : Value) : List (ByteArray × Value) :=
  if f.any (fun x => s == x.1) then f.map (fun x => if s == x.1 then (s, v) else x) else f ++ [(s, v)]
def sdel (f : List (ByteArray × Value)) (s : ByteArray) : List (ByteArray × Value) := f.filter (fun x => !(s == x.1))

theorem SMap.new (w : World) : SMap (w.alloc (.map #[] 0)) w.heap.size [] := ⟨#[], 0, heap_alloc_new w _, rfl⟩
theorem SMap.lt {w : World} {m : Nat} {f : List (ByteArray × Value)} (h : SMap w m f) : m < w.heap.size := by
  obtain ⟨es, c, h, _⟩ := h
  rcases Nat.lt_or_ge m w.heap.size with hlt | hge
  · exact hlt
  · rw [Array.getElem?_eq_none hge] at h; cases h
theorem SMap.of_block {w w' : World} {m : Nat} {f : List (ByteArray × Value)} (h : SMap w m f) (hb : w'.heap[m]? = w.heap[m]?) : SMap w' m f := by
  obtain ⟨es, c, h1, h2⟩ := h
  exact ⟨es, c, hb.trans h1, h2⟩
theorem SMap.only {F : Nat → Prop} {w w' : World} {m : Nat} {f : List (ByteArray × Value)} (h : SMap w m f) (hb : Only F w w') (hF : ¬ F m) : SMap w' m f := h.of_block (hb.block m h.lt hF)
theorem SMap.ne_blk {w : World} {m g : Nat} {f : List (ByteArray × Value)} {t : TypeId} {cs : Array Value} (h : SMap w m f) (hb : Blk w g t cs) : m ≠ g := by
  rintro rfl
  obtain ⟨es, c, h1, _⟩ := h
  unfold Blk at hb
  rw [h1] at hb
  cases hb

theorem findNow_string (s : ByteArray) : ∀ (es : List MapEntry) (f : List (ByteArray × Value)) (i : Nat), es.map (fun e => (e.key, e.val)) = f.map (fun x => (Value.string x.1, x.2)) →
    Instr.findNow .string (.string s) es i = some ((f.findIdx? (fun x => s == x.1)).map fun j => (i + j, (f[j]?.map (·.2)).getD undef))
  | [], [], i, _ => by simp [Instr.findNow]
  | [], _ :: _, _, h => by simp at h
  | _ :: _, [], _, h => by simp at h
  | e :: es, x :: f, i, h => by
    simp only [List.map_cons, List.cons.injEq, Prod.mk.injEq] at h
    obtain ⟨⟨hk, hv⟩, ht⟩ := h
    have ih := findNow_string s es f (i + 1) ht
    unfold Instr.findNow
    rw [hk]
    simp only [Instr.sameNow]
    rw [List.findIdx?_cons]
    cases hs : s == x.1 with
    | true => simp [hv]
    | false =>
      simp only [Bool.false_eq_true, if_false]
      rw [ih]
      cases hf : f.findIdx? (fun x => s == x.1) with
      | none => simp
      | some j => simp [Nat.add_assoc, Nat.add_comm 1 j]

theorem find_of_findIdx (f : List (ByteArray × Value)) (p : ByteArray × Value → Bool) : f.find? p = (f.findIdx? p).bind fun j => f[j]? := by
  induction f with
  | nil => simp
  | cons x f ih =>
    rw [List.find?_cons, List.findIdx?_cons]
    cases hp : p x with
    | true => simp
    | false => simp only [ih]; cases f.findIdx? p <;> simp

section
variable {P : Program}
theorem run_checkKey_string {k : TypeId} (hk : P.underlying k = some .string) (em : Bool) (s : ByteArray) (w : World) : (Instr.checkKey em 10000 k (.string s)).run P w = .ok () w := by
  show (Instr.checkKey em (9999 + 1) k (.string s)).run P w = .ok () w
  unfold Instr.checkKey
  simp [run_underlying hk]
theorem run_findKey_string {k : TypeId} (hk : P.underlying k = some .string) (s : ByteArray) (es : List MapEntry) (f : List (ByteArray × Value)) (w : World)
    (h : es.map (fun e => (e.key, e.val)) = f.map (fun x => (Value.string x.1, x.2))) :
    (Instr.findKey k (.string s) es).run P w = .ok ((f.findIdx? (fun x => s == x.1)).map fun j => (j, (f[j]?.map (·.2)).getD undef)) w := by
  unfold Instr.findKey
  have := findNow_string s es f 0 h
  simp [run_underlying hk, this]

theorem run_getO {m : Nat} {es : Array MapEntry} {c : Nat} {w : World} (h : w.heap[m]? = some (.map es c)) : (getObj m).run P w = .ok (.map es c) w := by
  simp [getObj, Sem.run, h]
theorem run_lookup_string {t k e : TypeId} (ht : P.underlying t = some (.map k e)) (hk : P.underlying k = some .string) {z : Value} {w : World} (hz : (zeroValue e).run P w = .ok z w)
    {m : Nat} {f : List (ByteArray × Value)} (h : SMap w m f) (s : ByteArray) (ok : Bool) :
    (Instr.lookup t (.map (some m)) (.string s) ok).run P w =
      .ok (if ok then .tuple #[(slook f s).getD z, .bool (slook f s).isSome] else (slook f s).getD z) w := by
  obtain ⟨es, c, h1, h2⟩ := h
  have hf := run_findKey_string hk s es.toList f w h2
  have hc := run_checkKey_string hk es.isEmpty s w
  unfold Instr.lookup
  simp only [Sem.run_bind, run_underlying ht, Result.andThen_ok, run_getO h1, Sem.run_pure, slook, find_of_findIdx, hc, hf]
  cases hi : f.findIdx? (fun x => s == x.1) with
  | none =>
    simp only [Option.map_none, Option.bind_none, Option.getD_none, Option.isSome_none]
    cases ok <;> simp only [Sem.run_bind, hz, Result.andThen_ok, Sem.run_pure]
  | some j =>
    have hj : j < f.length := (List.findIdx?_eq_some_iff_findIdx_eq.1 hi).1
    have hg : f[j]? = some f[j] := List.getElem?_eq_getElem hj
    simp only [Option.map_some, Option.bind_some, hg, Option.getD_some, Option.isSome_some]
    cases ok <;> simp only [Sem.run_bind, Result.andThen_ok, Sem.run_pure]

theorem any_of_findIdx (f : List (ByteArray × Value)) (p : ByteArray × Value → Bool) : f.any p = (f.findIdx? p).isSome := by
  induction f with
  | nil => simp
  | cons x f ih =>
    rw [List.any_cons, List.findIdx?_cons]
    cases hp : p x
    · simp only [Bool.false_or, ih, Bool.false_eq_true, if_false]; cases f.findIdx? p <;> rfl
    · rfl

/-- The names in the map are told once. -/
def Uniq (f : List (ByteArray × Value)) : Prop := (f.map (·.1)).Nodup

theorem upd_at (s : ByteArray) (v : Value) : ∀ (es : List MapEntry) (f : List (ByteArray × Value)) (j : Nat), es.map (fun e => (e.key, e.val)) = f.map (fun x => (Value.string x.1, x.2)) → Uniq f →
    f.findIdx? (fun x => s == x.1) = some j →
    (es.modify j fun e => { e with key := .string s, val := v }).map (fun e => (e.key, e.val)) = (f.map (fun x => if s == x.1 then (s, v) else x)).map (fun x => (Value.string x.1, x.2))
  | [], [], j, _, _, h => by simp at h
  | [], _ :: _, _, h, _, _ => by simp at h
  | _ :: _, [], _, h, _, _ => by simp at h
  | e :: es, x :: f, j, h, hu, hi => by
    simp only [List.map_cons, List.cons.injEq, Prod.mk.injEq] at h
    obtain ⟨⟨hk, hv⟩, ht⟩ := h
    rw [List.findIdx?_cons] at hi
    have hu' : Uniq f := (List.nodup_cons.1 hu).2
    have hx : ∀ y ∈ f, x.1 ≠ y.1 := fun y hy e => (List.nodup_cons.1 hu).1 (List.mem_map.2 ⟨y, hy, e.symm⟩)
    cases hs : s == x.1 with
    | true =>
      rw [hs] at hi
      simp only [if_true, Option.some.injEq] at hi
      subst hi
      have hsx : s = x.1 := by simpa using hs
      simp only [List.modify_zero_cons, List.map_cons, hs, if_true, ht]
      refine congrArg _ ?_
      have : f.map (fun x => if s == x.1 then (s, v) else x) = f := by
        conv => rhs; rw [← List.map_id f]
        refine List.map_congr_left fun y hy => ?_
        have : (s == y.1) = false := by rw [hsx]; simpa using hx y hy
        simp [this]
      rw [this]
    | false =>
      rw [hs] at hi
      simp only [Bool.false_eq_true, if_false, Option.map_eq_some_iff] at hi
      obtain ⟨j', hj', rfl⟩ := hi
      have ih := upd_at s v es f j' ht hu' hj'
      simp only [List.modify_succ_cons, List.map_cons, hs, Bool.false_eq_true, if_false, hk, hv, ih]

theorem del_at (s : ByteArray) : ∀ (es : List MapEntry) (f : List (ByteArray × Value)) (j : Nat), es.map (fun e => (e.key, e.val)) = f.map (fun x => (Value.string x.1, x.2)) → Uniq f →
    f.findIdx? (fun x => s == x.1) = some j →
    (es.eraseIdx j).map (fun e => (e.key, e.val)) = (sdel f s).map (fun x => (Value.string x.1, x.2))
  | [], [], j, _, _, h => by simp at h
  | [], _ :: _, _, h, _, _ => by simp at h
  | _ :: _, [], _, h, _, _ => by simp at h
  | e :: es, x :: f, j, h, hu, hi => by
    simp only [List.map_cons, List.cons.injEq, Prod.mk.injEq] at h
    obtain ⟨⟨hk, hv⟩, ht⟩ := h
    rw [List.findIdx?_cons] at hi
    have hu' : Uniq f := (List.nodup_cons.1 hu).2
    have hx : ∀ y ∈ f, x.1 ≠ y.1 := fun y hy e => (List.nodup_cons.1 hu).1 (List.mem_map.2 ⟨y, hy, e.symm⟩)
    cases hs : s == x.1 with
    | true =>
      rw [hs] at hi
      simp only [if_true, Option.some.injEq] at hi
      subst hi
      have hsx : s = x.1 := by simpa using hs
      have : sdel f s = f := by
        refine List.filter_eq_self.2 fun y hy => ?_
        have : (s == y.1) = false := by rw [hsx]; simpa using hx y hy
        simp [this]
      have h3 : sdel (x :: f) s = f := by
        unfold sdel at this ⊢
        rw [List.filter_cons, hs]
        simpa using this
      rw [h3]
      simpa using ht
    | false =>
      rw [hs] at hi
      simp only [Bool.false_eq_true, if_false, Option.map_eq_some_iff] at hi
      obtain ⟨j', hj', rfl⟩ := hi
      have ih := del_at s es f j' ht hu' hj'
      have h3 : sdel (x :: f) s = x :: sdel f s := by
        unfold sdel
        rw [List.filter_cons, hs]
        simp
      rw [h3]
      simp only [List.eraseIdx_cons_succ, List.map_cons, hk, hv, ih]

def setO (w : World) (r : Nat) (o : Obj) : World := { w with heap := w.heap.setIfInBounds r o }
theorem run_setO {m : Nat} {es : Array MapEntry} {c : Nat} {w : World} (h : w.heap[m]? = some (.map es c)) (o : Obj) : (setObj m o).run P w = .ok () (setO w m o) := by
  simp [setObj, Sem.run, h, setO]
theorem setO_only {m : Nat} {w : World} (o : Obj) : Only (· = m) w (setO w m o) :=
  ⟨rfl, rfl, rfl, by simp [setO], fun k hk hn => by
    simp only [setO, Array.getElem?_setIfInBounds]
    rw [if_neg (fun e => hn e.symm)]⟩
theorem setO_at {m : Nat} {w : World} (h : m < w.heap.size) (o : Obj) : (setO w m o).heap[m]? = some o := by
  simp [setO, h]
theorem setO_size (w : World) (m : Nat) (o : Obj) : (setO w m o).heap.size = w.heap.size := by simp [setO]

theorem sput_uniq {f : List (ByteArray × Value)} (h : Uniq f) (s : ByteArray) (v : Value) : Uniq (sput f s v) := by
  unfold Uniq sput at *
  split
  · have : (f.map (fun x => if s == x.1 then (s, v) else x)).map (·.1) = f.map (·.1) := by
      rw [List.map_map]
      refine List.map_congr_left fun x _ => ?_
      simp only [Function.comp]
      split
      · rename_i h; simpa using h
      · rfl
    rw [this]; exact h
  · rename_i hn
    rw [List.map_append, List.nodup_append]
    refine ⟨h, by simp, fun a ha b hb => ?_⟩
    obtain ⟨x, hx, rfl⟩ := List.mem_map.1 ha
    simp only [List.map_cons, List.map_nil, List.mem_singleton] at hb
    subst hb
    intro e
    exact hn (List.any_eq_true.2 ⟨x, hx, by simp [e]⟩)
theorem sdel_uniq {f : List (ByteArray × Value)} (h : Uniq f) (s : ByteArray) : Uniq (sdel f s) := by
  unfold Uniq sdel at *
  exact List.Sublist.nodup (List.Sublist.map _ List.filter_sublist) h

theorem run_mapUpdate_string {t k e : TypeId} (ht : P.underlying t = some (.map k e)) (hk : P.underlying k = some .string) {w : World}
    {m : Nat} {f : List (ByteArray × Value)} (h : SMap w m f) (hu : Uniq f) (s : ByteArray) (v : Value) :
    ∃ o, (Instr.mapUpdate t (.map (some m)) (.string s) v).run P w = .ok () (setO w m o) ∧ SMap (setO w m o) m (sput f s v) := by
  have hlt := h.lt
  obtain ⟨es, c, h1, h2⟩ := h
  have hf := run_findKey_string hk s es.toList f w h2
  have hc := run_checkKey_string hk false s w
  unfold Instr.mapUpdate
  cases hi : f.findIdx? (fun x => s == x.1) with
  | none =>
    rw [hi] at hf
    refine ⟨.map (es.push { key := .string s, val := v, born := c }) (c + 1), ?_, _, _, setO_at hlt _, ?_⟩
    · simp [run_underlying ht, run_getO h1, hc, hf, run_setO h1]
    · have : f.any (fun x => s == x.1) = false := by rw [any_of_findIdx, hi]; rfl
      simp [sput, this, h2]
  | some j =>
    rw [hi] at hf
    have hj : j < f.length := (List.findIdx?_eq_some_iff_findIdx_eq.1 hi).1
    have hlen : es.size = f.length := by have := congrArg List.length h2; simpa using this
    have hkey : es[j]?.map (·.key) = some (.string s) := by
      have h3 : (es.toList.map (fun e => (e.key, e.val)))[j]? = (f.map (fun x => (Value.string x.1, x.2)))[j]? := by rw [h2]
      have hp : (s == f[j].1) = true := by
        have := List.findIdx?_eq_some_iff_getElem.1 hi
        obtain ⟨_, h4, _⟩ := this
        exact h4
      have hp' : s = f[j].1 := by simpa using hp
      simp only [List.getElem?_map, Array.getElem?_toList] at h3
      cases he : es[j]? with
      | none => rw [he] at h3; simp [hj] at h3
      | some e =>
        rw [he] at h3
        simp [hj] at h3
        simp [h3.1, ← hp']
    refine ⟨.map (es.modify j fun e => { e with key := .string s, val := v }) c, ?_, _, _, setO_at hlt _, ?_⟩
    · simp [run_underlying ht, run_getO h1, hc, hf, run_setO h1, hkey, Instr.keyThatStays, Instr.sameBits]
    · have : f.any (fun x => s == x.1) = true := by rw [any_of_findIdx, hi]; rfl
      rw [Array.toList_modify, upd_at s v es.toList f j h2 hu hi]
      simp [sput, this]

theorem run_delete_string {t k e : TypeId} {tys : Array TypeId} (ty : TypeId) (h0 : tys[0]? = some t) (ht : P.underlying t = some (.map k e)) (hk : P.underlying k = some .string) {w : World}
    {m : Nat} {f : List (ByteArray × Value)} (h : SMap w m f) (hu : Uniq f) (s : ByteArray) :
    ∃ o, (Builtin.delete_ tys ty #[.map (some m), .string s]).run P w = .ok (.tuple #[]) (setO w m o) ∧ SMap (setO w m o) m (sdel f s) := by
  have hlt := h.lt
  obtain ⟨es, c, h1, h2⟩ := h
  have hf := run_findKey_string hk s es.toList f w h2
  have hc := run_checkKey_string hk es.isEmpty s w
  unfold Builtin.delete_
  cases hi : f.findIdx? (fun x => s == x.1) with
  | none =>
    rw [hi] at hf
    refine ⟨.map es c, ?_, _, _, setO_at hlt _, ?_⟩
    · simp [h0, run_underlying ht, run_getO h1, hc, hf, run_setO h1]
    · have : sdel f s = f := by
        refine List.filter_eq_self.2 fun x hx => ?_
        have := List.findIdx?_eq_none_iff.1 hi x hx
        simp [this]
      rw [this, h2]
  | some j =>
    rw [hi] at hf
    refine ⟨.map (es.eraseIdxIfInBounds j) c, ?_, _, _, setO_at hlt _, ?_⟩
    · simp [h0, run_underlying ht, run_getO h1, hc, hf, run_setO h1]
    · rw [← del_at s es.toList f j h2 hu hi]
      simp
end
end Go.Proofs.Ytannmemocaibiaa
