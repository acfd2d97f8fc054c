/- How the twin's values, memory and frames stand to the model's. -/
import Derived.Test.YtfmmgggdgpfaaaaGreatDoorDtr
import Derived.Deep.AppendSrc
import Derived.Deep.Upon
import Derived.Great.BuildSlice
import Derived.Laws.Tables
import Derived.RangeFuncRecord
import Derived.Lib.Builder
import Derived.Laws.MakeOwn
import Derived.Laws.LoneSync
import Derived.Lib.Bytealg
import Derived.Lib.IndexEntry
import Derived.Laws.Externs
namespace Go.Proofs.YtfmmgggdgpfaaaaGreatDoor.DS
set_option linter.unusedVariables false
set_option linter.unusedSimpArgs false
open Go.RowKit (Below)

/-- Where a block of the twin's lies. -/
structure PI where
  b : Nat
  base : Nat
  csize : Nat

abbrev Phi := Nat → Option PI
def Phi.le (φ ψ : Phi) : Prop := ∀ d i, φ d = some i → ψ d = some i
theorem Phi.le_refl (φ : Phi) : φ.le φ := fun _ _ h => h
theorem Phi.le_trans {a b c : Phi} (h : a.le b) (k : b.le c) : a.le c := fun d i e => k d i (h d i e)
def Phi.with (φ : Phi) (d : Nat) (i : PI) : Phi := fun x => if x = d then some i else φ x
theorem Phi.with_self (φ : Phi) (d : Nat) (i : PI) : (φ.with d i) d = some i := by simp [Phi.with]
theorem Phi.with_ne (φ : Phi) {d x : Nat} (i : PI) (h : x ≠ d) : (φ.with d i) x = φ x := by simp [Phi.with, h]
theorem Phi.le_with {φ : Phi} {d : Nat} (i : PI) (h : φ d = none) : φ.le (φ.with d i) := by
  intro x j hx
  by_cases e : x = d
  · subst e; rw [h] at hx; cases hx
  · rw [Phi.with_ne _ _ e]; exact hx

inductive VRel (φ : Phi) : DV → Value → Prop
  | bad (v : Value) : VRel φ .bad v
  | bool (b : Bool) : VRel φ (.bool b) (.bool b)
  | int (k : IntKind) (n : Int) : VRel φ (.int k n) (.int k n)
  | str (s : ByteArray) : VRel φ (.str s.data.toList) (.string s)
  | nilPtr : VRel φ .nilPtr (.pointer none)
  | ptr (d off : Nat) (i : PI) (h : φ d = some i) : VRel φ (.ptr d off) (.pointer (some ⟨i.b, i.base + off, none⟩))
  | nilSlice : VRel φ .nilSlice (.slice none 0 0)
  | slice (d off len esz : Nat) (i : PI) (o cap : Nat) (h : φ d = some i) (hl : len ≤ cap) (ho : o = i.base + off ∨ (len = 0 ∧ cap = 0))
      (hc : i.base + off + cap * esz ≤ i.csize) : VRel φ (.slice d off len esz) (.slice (some ⟨i.b, o, none⟩) len cap)
  | nilMap : VRel φ .nilMap (.map none)
  | map (d : Nat) (i : PI) (h : φ d = some i) : VRel φ (.map d) (.map (some i.b))
  | nilFunc : VRel φ .nilFunc .nilFunc
  | func (f : FuncId) (first cap : List DV) (first' cap' : Array Value) (h1 : first.length = first'.size) (h2 : cap.length = cap'.size)
      (k1 : ∀ (j : Nat) (v : DV) (u : Value), first[j]? = some v → first'[j]? = some u → VRel φ v u)
      (k2 : ∀ (j : Nat) (v : DV) (u : Value), cap[j]? = some v → cap'[j]? = some u → VRel φ v u) : VRel φ (.func f first cap) (.func (.func f) first' cap')
  | yield (d : Nat) (i : PI) (h : φ d = some i) : VRel φ (.yield d) (.func (.yield i.b) #[] #[])
  | nilIface : VRel φ .nilIface .nilIface
  | iface (t : TypeId) (v : DV) (u : Value) (h : VRel φ v u) : VRel φ (.iface t v) (.iface t u)
  | agg (cs : List DV) (cs' : Array Value) (h : cs.length = cs'.size)
      (k : ∀ (j : Nat) (v : DV) (u : Value), cs[j]? = some v → cs'[j]? = some u → VRel φ v u) : VRel φ (.agg cs) (.agg cs')
  | tuple (cs : List DV) (cs' : Array Value) (h : cs.length = cs'.size)
      (k : ∀ (j : Nat) (v : DV) (u : Value), cs[j]? = some v → cs'[j]? = some u → VRel φ v u) : VRel φ (.tuple cs) (.tuple cs')

theorem VRel.mono {φ ψ : Phi} (hle : φ.le ψ) {v : DV} {u : Value} (h : VRel φ v u) : VRel ψ v u := by
  induction h with
  | bad v => exact .bad v
  | bool b => exact .bool b
  | int k n => exact .int k n
  | str s => exact .str s
  | nilPtr => exact .nilPtr
  | ptr d off i h => exact .ptr d off i (hle _ _ h)
  | nilSlice => exact .nilSlice
  | slice d off len esz i o cap h hl ho hc => exact .slice d off len esz i o cap (hle _ _ h) hl ho hc
  | nilMap => exact .nilMap
  | map d i h => exact .map d i (hle _ _ h)
  | nilFunc => exact .nilFunc
  | func f first cap first' cap' h1 h2 _ _ ih1 ih2 => exact .func f first cap first' cap' h1 h2 ih1 ih2
  | yield d i h => exact .yield d i (hle _ _ h)
  | nilIface => exact .nilIface
  | iface t v u _ ih => exact .iface t v u ih
  | agg cs cs' h _ ih => exact .agg cs cs' h ih
  | tuple cs cs' h _ ih => exact .tuple cs cs' h ih

/-- Lists and rows. -/
def LRel (φ : Phi) (l : List DV) (a : List Value) : Prop := l.length = a.length ∧ ∀ (j : Nat) (v : DV) (u : Value), l[j]? = some v → a[j]? = some u → VRel φ v u
theorem LRel.mono {φ ψ : Phi} (hle : φ.le ψ) {l : List DV} {a : List Value} (h : LRel φ l a) : LRel ψ l a := ⟨h.1, fun j v u h1 h2 => (h.2 j v u h1 h2).mono hle⟩
theorem LRel.nil (φ : Phi) : LRel φ [] [] := ⟨rfl, fun j v u h => by simp at h⟩
theorem LRel.cons {φ : Phi} {v : DV} {u : Value} {l : List DV} {a : List Value} (h : VRel φ v u) (hl : LRel φ l a) : LRel φ (v :: l) (u :: a) := by
  refine ⟨by simp [hl.1], fun j x y h1 h2 => ?_⟩
  cases j with
  | zero => simp at h1 h2; subst h1; subst h2; exact h
  | succ j => simp at h1 h2; exact hl.2 j x y h1 h2
theorem LRel.head {φ : Phi} {v : DV} {u : Value} {l : List DV} {a : List Value} (h : LRel φ (v :: l) (u :: a)) : VRel φ v u := h.2 0 v u rfl rfl
theorem LRel.tail {φ : Phi} {v : DV} {u : Value} {l : List DV} {a : List Value} (h : LRel φ (v :: l) (u :: a)) : LRel φ l a :=
  ⟨by have := h.1; simpa using this, fun j x y h1 h2 => h.2 (j + 1) x y (by simpa using h1) (by simpa using h2)⟩
theorem LRel.nil_left {φ : Phi} {a : List Value} (h : LRel φ [] a) : a = [] := List.eq_nil_of_length_eq_zero h.1.symm
theorem LRel.cons_left {φ : Phi} {v : DV} {l : List DV} {a : List Value} (h : LRel φ (v :: l) a) : ∃ u a', a = u :: a' ∧ VRel φ v u ∧ LRel φ l a' := by
  cases a with
  | nil => have := h.1; simp at this
  | cons u a' => exact ⟨u, a', rfl, h.head, h.tail⟩
theorem LRel.append {φ : Phi} {l m : List DV} {a b : List Value} (h : LRel φ l a) (k : LRel φ m b) : LRel φ (l ++ m) (a ++ b) := by
  refine ⟨by simp [h.1, k.1], fun j v u h1 h2 => ?_⟩
  by_cases hj : j < l.length
  · rw [List.getElem?_append_left hj] at h1
    rw [List.getElem?_append_left (by rw [← h.1]; exact hj)] at h2
    exact h.2 j v u h1 h2
  · rw [List.getElem?_append_right (by omega)] at h1
    rw [List.getElem?_append_right (by rw [← h.1]; omega), ← h.1] at h2
    exact k.2 _ v u h1 h2
theorem LRel.drop {φ : Phi} {l : List DV} {a : List Value} (n : Nat) (h : LRel φ l a) : LRel φ (l.drop n) (a.drop n) := by
  refine ⟨by simp [h.1], fun j v u h1 h2 => ?_⟩
  rw [List.getElem?_drop] at h1 h2
  exact h.2 _ v u h1 h2
theorem LRel.take {φ : Phi} {l : List DV} {a : List Value} (n : Nat) (h : LRel φ l a) : LRel φ (l.take n) (a.take n) := by
  refine ⟨by simp [h.1], fun j v u h1 h2 => ?_⟩
  rw [List.getElem?_take] at h1 h2
  by_cases e : j < n
  · rw [if_pos e] at h1 h2; exact h.2 _ v u h1 h2
  · rw [if_neg e] at h1; exact nomatch h1
theorem LRel.get {φ : Phi} {l : List DV} {a : List Value} (h : LRel φ l a) {j : Nat} {v : DV} (hv : l[j]? = some v) : ∃ u, a[j]? = some u ∧ VRel φ v u := by
  have hj : j < l.length := by
    rcases Nat.lt_or_ge j l.length with h' | h'
    · exact h'
    · rw [List.getElem?_eq_none h'] at hv; exact absurd hv (by simp)
  have hj' : j < a.length := by rw [← h.1]; exact hj
  exact ⟨a[j], List.getElem?_eq_getElem hj', h.2 j v _ hv (List.getElem?_eq_getElem hj')⟩
theorem LRel.set {φ : Phi} {l : List DV} {a : List Value} (h : LRel φ l a) {v : DV} {u : Value} (hv : VRel φ v u) (n : Nat) : LRel φ (l.set n v) (a.set n u) := by
  refine ⟨by simp [h.1], fun j x y h1 h2 => ?_⟩
  rw [List.getElem?_set] at h1 h2
  by_cases e : n = j
  · subst e
    rw [if_pos rfl] at h1 h2
    split at h1
    · split at h2
      · obtain rfl := Option.some.inj h1
        obtain rfl := Option.some.inj h2
        exact hv
      · exact absurd h2 (by simp)
    · exact absurd h1 (by simp)
  · rw [if_neg e] at h1 h2; exact h.2 j x y h1 h2

theorem VRel.agg_iff {φ : Phi} {cs : List DV} {u : Value} (h : VRel φ (.agg cs) u) : ∃ cs', u = .agg cs' ∧ LRel φ cs cs'.toList := by
  cases h with
  | agg _ cs' h k => exact ⟨cs', rfl, by simpa using h, fun j v u h1 h2 => k j v u h1 (by simpa using h2)⟩
theorem VRel.tuple_iff {φ : Phi} {cs : List DV} {u : Value} (h : VRel φ (.tuple cs) u) : ∃ cs', u = .tuple cs' ∧ LRel φ cs cs'.toList := by
  cases h with
  | tuple _ cs' h k => exact ⟨cs', rfl, by simpa using h, fun j v u h1 h2 => k j v u h1 (by simpa using h2)⟩
theorem VRel.of_agg {φ : Phi} {cs : List DV} {cs' : Array Value} (h : LRel φ cs cs'.toList) : VRel φ (.agg cs) (.agg cs') :=
  .agg cs cs' (by simpa using h.1) fun j v u h1 h2 => h.2 j v u h1 (by simpa using h2)
theorem VRel.of_tuple {φ : Phi} {cs : List DV} {cs' : Array Value} (h : LRel φ cs cs'.toList) : VRel φ (.tuple cs) (.tuple cs') :=
  .tuple cs cs' (by simpa using h.1) fun j v u h1 h2 => h.2 j v u h1 (by simpa using h2)
theorem VRel.func_iff {φ : Phi} {f : FuncId} {first cap : List DV} {u : Value} (h : VRel φ (.func f first cap) u) :
    ∃ first' cap', u = .func (.func f) first' cap' ∧ LRel φ first first'.toList ∧ LRel φ cap cap'.toList := by
  cases h with
  | func _ _ _ first' cap' h1 h2 k1 k2 =>
    exact ⟨first', cap', rfl, ⟨by simpa using h1, fun j v u a b => k1 j v u a (by simpa using b)⟩, ⟨by simpa using h2, fun j v u a b => k2 j v u a (by simpa using b)⟩⟩
theorem VRel.of_func {φ : Phi} {f : FuncId} {first cap : List DV} {first' cap' : Array Value} (h : LRel φ first first'.toList) (k : LRel φ cap cap'.toList) :
    VRel φ (.func f first cap) (.func (.func f) first' cap') :=
  .func f first cap first' cap' (by simpa using h.1) (by simpa using k.1) (fun j v u a b => h.2 j v u a (by simpa using b)) (fun j v u a b => k.2 j v u a (by simpa using b))

/-- What a value's cells are. -/
theorem VRel.cells {φ : Phi} {v : DV} {u : Value} (h : VRel φ v u) {cs : List DV} (hc : v.cells = some cs) : LRel φ cs u.cells.toList := by
  cases h <;> simp only [DV.cells, Option.some.injEq, reduceCtorEq] at hc <;> try (subst hc; simp only [Value.cells]; exact LRel.cons (by constructor <;> assumption) (LRel.nil _))
  case agg h k => subst hc; exact ⟨by simpa [Value.cells] using h, fun j v u h1 h2 => k j v u h1 (by simpa [Value.cells] using h2)⟩

theorem VRel.oneCell {φ : Phi} {v : DV} {u : Value} (h : VRel φ v u) (hs : v.scalar = true) : u.oneCell' = true := by
  cases h <;> first | rfl | simp [DV.scalar] at hs

/-- The slots. -/
def TRel (φ : Phi) (t : Tr DV) (a : Array Value) : Prop := ∀ s, VRel φ ((t.get s).getD .bad) (a.getD s undef)
theorem TRel.mono {φ ψ : Phi} (hle : φ.le ψ) {t : Tr DV} {a : Array Value} (h : TRel φ t a) : TRel ψ t a := fun s => (h s).mono hle
theorem TRel.put {φ : Phi} {t : Tr DV} {a : Array Value} (h : TRel φ t a) {v : DV} {u : Value} (hv : VRel φ v u) {d : Nat} (hd : d < a.size) :
    TRel φ (t.put d v) (a.setIfInBounds d u) := by
  intro s
  rw [Tr.get_put]
  by_cases e : s = d
  · subst e
    simp only [if_pos, Option.getD_some, Array.getD_eq_getD_getElem?]
    rw [Array.getElem?_setIfInBounds_self_of_lt hd]; simpa using hv
  · rw [if_neg e]
    simp only [Array.getD_eq_getD_getElem?]
    rw [Array.getElem?_setIfInBounds_ne (fun h => e h.symm)]
    have := h s
    simpa only [Array.getD_eq_getD_getElem?] using this

/-- A jump and its twin. -/
def JRel : Option DJump → Option Code → Prop
  | none, none => True
  | some (.exit id), some (.exit id') => id = id'
  | some .ret, some .ret => True
  | _, _ => False

/-- A block and its twin. -/
def ORel (P : Program) (φ : Phi) (i : PI) : DObj → Obj → Prop
  | .cells cs e frz ex mk, o => ∃ c lo hi, o = .cells c e (lo, hi) ∧ c.size = i.csize ∧ i.base + cs.length ≤ i.csize ∧ (ex = true → i.base = 0 ∧ cs.length = i.csize) ∧
      LRel φ cs ((c.toList.drop i.base).take cs.length) ∧ (mk = false → lo ≤ hi ∧ hi ≤ i.base + frz) ∧ (∀ q, lo ≤ q → q < hi → q < i.base + frz ∨ i.csize ≤ q)
  | .map es, o => ∃ ents clock, o = .map ents clock ∧ es.length = ents.size ∧
      ∀ (j : Nat) (p : DV × DV) (e : MapEntry), es[j]? = some p → ents[j]? = some e → VRel φ p.1 e.key ∧ VRel φ p.2 e.val
  | .loop l, o => ∃ L : Loop, o = .loop L ∧ L.state = l.state ∧ L.fn = l.fn ∧ TRel φ l.tmps L.tmps ∧ L.params.toList = l.params ∧
      (∃ n, l.assign = cCode P n L.assign ∧ l.body = cCode P n L.body ∧ L.tmps.size = n ∧ ∀ p ∈ l.params, p < n) ∧ JRel l.pend L.pending ∧
      (∃ j, φ l.defs = some j ∧ L.defers = j.b)
  | .defs taken, o => o = .deferred (if taken then none else some [])

theorem ORel.mono {P : Program} {φ ψ : Phi} (hle : φ.le ψ) {i : PI} {x : DObj} {o : Obj} (h : ORel P φ i x o) : ORel P ψ i x o := by
  cases x with
  | cells cs e frz ex mk =>
    obtain ⟨c, lo, hi, h1, h2, h3, h4, h5, h6⟩ := h
    exact ⟨c, lo, hi, h1, h2, h3, h4, h5.mono hle, h6⟩
  | map es =>
    obtain ⟨ents, clock, h1, h2, h3⟩ := h
    exact ⟨ents, clock, h1, h2, fun j p e a b => ⟨(h3 j p e a b).1.mono hle, (h3 j p e a b).2.mono hle⟩⟩
  | loop l =>
    obtain ⟨L, h1, h2, h3, h4, h5, h6, h7, j, h8, h9⟩ := h
    exact ⟨L, h1, h2, h3, h4.mono hle, h5, h6, h7, j, hle _ _ h8, h9⟩
  | defs t => exact h

/-- Memory and its twin: what is the call's own lies at or above B0. -/
structure Rel (P : Program) (B0 : Nat) (φ : Phi) (H : DH) (w : World) : Prop where
  blk : ∀ d i B, φ d = some i → H.get d = some B → ∃ o, w.heap[i.b]? = some o ∧ ORel P φ i B.obj o
  sep : ∀ d d' i i' B B', φ d = some i → φ d' = some i' → H.get d = some B → H.get d' = some B' → B.own = true → d ≠ d' → i.b ≠ i'.b
  lo : ∀ d i B, φ d = some i → H.get d = some B → B.own = true → B0 ≤ i.b ∧ i.base = 0
  dom : ∀ d i, φ d = some i → d < H.next
  sz : B0 ≤ w.heap.size

/-- What a step may do. -/
structure Ext (B0 : Nat) (φ : Phi) (H : DH) (w : World) (φ' : Phi) (H' : DH) (w' : World) : Prop where
  le : φ.le φ'
  nxt : H.next ≤ H'.next
  unm : ∀ d, d < H.next → φ d = none → φ' d = none ∧ H'.get d = H.get d
  below : Below B0 w w'

theorem Ext.refl (B0 : Nat) (φ : Phi) (H : DH) (w : World) : Ext B0 φ H w φ H w := ⟨φ.le_refl, Nat.le_refl _, fun _ _ h => ⟨h, rfl⟩, .refl _ _⟩
theorem Ext.trans {B0 : Nat} {φ φ' φ'' : Phi} {H H' H'' : DH} {w w' w'' : World} (h : Ext B0 φ H w φ' H' w') (k : Ext B0 φ' H' w' φ'' H'' w'') : Ext B0 φ H w φ'' H'' w'' :=
  ⟨Phi.le_trans h.le k.le, Nat.le_trans h.nxt k.nxt, fun d hd hn =>
    ⟨(k.unm d (Nat.lt_of_lt_of_le hd h.nxt) (h.unm d hd hn).1).1, (k.unm d (Nat.lt_of_lt_of_le hd h.nxt) (h.unm d hd hn).1).2.trans (h.unm d hd hn).2⟩, h.below.trans k.below⟩

theorem DH.get_set (H : DH) (d x : Nat) (b : DBlk) : (H.set d b).get x = if x = d then some b else H.get x := Tr.get_put _ _ _ _
theorem DH.get_del (H : DH) (d x : Nat) : (H.del d).get x = if x = d then none else H.get x := Tr.get_del _ _ _
theorem DH.get_new (H : DH) (x : Nat) (b : DBlk) : (H.new b).get x = if x = H.next then some b else H.get x := Tr.get_put _ _ _ _
theorem DH.next_set (H : DH) (d : Nat) (b : DBlk) : (H.set d b).next = H.next := rfl
theorem DH.next_del (H : DH) (d : Nat) : (H.del d).next = H.next := rfl
theorem DH.next_new (H : DH) (b : DBlk) : (H.new b).next = H.next + 1 := rfl

section
variable {P : Program} {B0 : Nat} {φ : Phi} {H : DH} {w : World}

/-- The same heap. -/
theorem Rel.congr {w' : World} (h : Rel P B0 φ H w) (e : w'.heap = w.heap) : Rel P B0 φ H w' :=
  ⟨by rw [e]; exact h.blk, h.sep, h.lo, h.dom, by rw [e]; exact h.sz⟩

theorem Rel.none_of_ge (h : Rel P B0 φ H w) {d : Nat} (hd : H.next ≤ d) : φ d = none := by
  cases e : φ d with
  | none => rfl
  | some i => have := h.dom d i e; omega

theorem Rel.lt_size (h : Rel P B0 φ H w) {d : Nat} {i : PI} {B : DBlk} (h1 : φ d = some i) (h2 : H.get d = some B) : i.b < w.heap.size := by
  obtain ⟨o, ho, _⟩ := h.blk d i B h1 h2
  rcases Nat.lt_or_ge i.b w.heap.size with h' | h'
  · exact h'
  · rw [Array.getElem?_eq_none h'] at ho; cases ho

/-- A new block. -/
theorem Rel.alloc (h : Rel P B0 φ H w) (B : DBlk) (o : Obj) (n : Nat) (ho : ORel P (φ.with H.next ⟨w.heap.size, 0, n⟩) ⟨w.heap.size, 0, n⟩ B.obj o) :
    Rel P B0 (φ.with H.next ⟨w.heap.size, 0, n⟩) (H.new B) (w.alloc o) ∧ Ext B0 φ H w (φ.with H.next ⟨w.heap.size, 0, n⟩) (H.new B) (w.alloc o) := by
  have hle : φ.le (φ.with H.next ⟨w.heap.size, 0, n⟩) := Phi.le_with _ (h.none_of_ge (Nat.le_refl _))
  have hsz : (w.alloc o).heap.size = w.heap.size + 1 := by show (w.heap.push o).size = _; simp
  refine ⟨⟨?_, ?_, ?_, ?_, ?_⟩, ⟨hle, ?_, ?_, ?_⟩⟩
  · intro d i B' h1 h2
    rw [DH.get_new] at h2
    by_cases e : d = H.next
    · subst e
      rw [Phi.with_self] at h1; cases h1
      rw [if_pos rfl] at h2; cases h2
      exact ⟨o, by show (w.heap.push o)[w.heap.size]? = _; simp, ho⟩
    · rw [Phi.with_ne _ _ e] at h1
      rw [if_neg e] at h2
      obtain ⟨o', h3, h4⟩ := h.blk d i B' h1 h2
      refine ⟨o', ?_, h4.mono hle⟩
      rw [Below.heap_alloc _ _ _ (h.lt_size h1 h2)]; exact h3
  · intro d d' i i' B1 B2 h1 h1' h2 h2' hown hne
    rw [DH.get_new] at h2 h2'
    by_cases e : d = H.next
    · subst e
      rw [Phi.with_self] at h1; cases h1
      rw [Phi.with_ne _ _ (fun x => hne x.symm)] at h1'
      rw [if_neg (fun x => hne x.symm)] at h2'
      have := h.lt_size h1' h2'
      show w.heap.size ≠ i'.b
      omega
    · by_cases e' : d' = H.next
      · subst e'
        rw [Phi.with_self] at h1'; cases h1'
        rw [Phi.with_ne _ _ e] at h1
        rw [if_neg e] at h2
        have := h.lt_size h1 h2
        show i.b ≠ w.heap.size
        omega
      · rw [Phi.with_ne _ _ e] at h1
        rw [Phi.with_ne _ _ e'] at h1'
        rw [if_neg e] at h2
        rw [if_neg e'] at h2'
        exact h.sep d d' i i' B1 B2 h1 h1' h2 h2' hown hne
  · intro d i B' h1 h2 hown
    rw [DH.get_new] at h2
    by_cases e : d = H.next
    · subst e
      rw [Phi.with_self] at h1; cases h1
      exact ⟨h.sz, rfl⟩
    · rw [Phi.with_ne _ _ e] at h1
      rw [if_neg e] at h2
      exact h.lo d i B' h1 h2 hown
  · intro d i h1
    rw [DH.next_new]
    by_cases e : d = H.next
    · omega
    · rw [Phi.with_ne _ _ e] at h1
      have := h.dom d i h1; omega
  · rw [hsz]; have := h.sz; omega
  · rw [DH.next_new]; omega
  · intro d hd hn
    have e : d ≠ H.next := by omega
    exact ⟨by rw [Phi.with_ne _ _ e]; exact hn, by rw [DH.get_new, if_neg e]⟩
  · exact (Below.refl _ _).alloc h.sz o

/-- A block of the call's own, changed. -/
theorem Rel.update (h : Rel P B0 φ H w) {d : Nat} {i : PI} {B : DBlk} (h1 : φ d = some i) (h2 : H.get d = some B) (hown : B.own = true) (x : DObj) (o : Obj) (w' : World)
    (ho : ORel P φ i x o) (hs : w'.heap.size = w.heap.size) (hb : w'.heap[i.b]? = some o) (hne : ∀ k, k ≠ i.b → w'.heap[k]? = w.heap[k]?)
    (e1 : w'.os = w.os) (e2 : w'.tape = w.tape) (e3 : w'.output = w.output) :
    Rel P B0 φ (H.set d { own := true, obj := x }) w' ∧ Ext B0 φ H w φ (H.set d { own := true, obj := x }) w' := by
  refine ⟨⟨?_, ?_, ?_, ?_, ?_⟩, ⟨φ.le_refl, Nat.le_refl _, ?_, ?_⟩⟩
  · intro d' i' B' h1' h2'
    rw [DH.get_set] at h2'
    by_cases e : d' = d
    · subst e
      rw [h1] at h1'; cases h1'
      rw [if_pos rfl] at h2'; cases h2'
      exact ⟨o, hb, ho⟩
    · rw [if_neg e] at h2'
      obtain ⟨o', h3, h4⟩ := h.blk d' i' B' h1' h2'
      refine ⟨o', ?_, h4⟩
      rw [hne _ (fun x => h.sep d d' i i' B B' h1 h1' h2 h2' hown (fun y => e y.symm) x.symm)]
      exact h3
  · intro d1 d2 i1 i2 B1 B2 k1 k2 g1 g2 ho' hne'
    rw [DH.get_set] at g1 g2
    have live : ∀ (d0 : Nat) (B' : DBlk), (if d0 = d then some { own := true, obj := x } else H.get d0) = some B' → ∃ B'', H.get d0 = some B'' ∧ B''.own = B'.own := by
      intro d0 B' hg
      by_cases e : d0 = d
      · subst e; rw [if_pos rfl] at hg; cases hg; exact ⟨B, h2, hown⟩
      · rw [if_neg e] at hg; exact ⟨B', hg, rfl⟩
    obtain ⟨B1', l1, o1⟩ := live d1 B1 g1
    obtain ⟨B2', l2, _⟩ := live d2 B2 g2
    exact h.sep d1 d2 i1 i2 B1' B2' k1 k2 l1 l2 (o1.trans ho') hne'
  · intro d' i' B' h1' h2' ho'
    rw [DH.get_set] at h2'
    by_cases e : d' = d
    · subst e; rw [h1] at h1'; cases h1'; exact h.lo d' i B h1 h2 hown
    · rw [if_neg e] at h2'; exact h.lo d' i' B' h1' h2' ho'
  · exact h.dom
  · rw [hs]; exact h.sz
  · intro d' hd' hn'
    refine ⟨hn', ?_⟩
    rw [DH.get_set, if_neg]
    intro e; subst e; rw [h1] at hn'; cases hn'
  · refine ⟨e1, e2, e3, by rw [hs]; exact Nat.le_refl _, fun k hk => hne k ?_⟩
    have := (h.lo d i B h1 h2 hown).1
    omega

/-- A block is used up. -/
theorem Rel.del (h : Rel P B0 φ H w) {d : Nat} {i : PI} (h1 : φ d = some i) : Rel P B0 φ (H.del d) w ∧ Ext B0 φ H w φ (H.del d) w := by
  have live : ∀ (d0 : Nat) (B' : DBlk), (H.del d).get d0 = some B' → H.get d0 = some B' := by
    intro d0 B' hg
    rw [DH.get_del] at hg
    by_cases e : d0 = d
    · rw [if_pos e] at hg; cases hg
    · rw [if_neg e] at hg; exact hg
  refine ⟨⟨fun d i B a b => h.blk d i B a (live d B b), fun d d' i i' B B' a b c e => h.sep d d' i i' B B' a b (live _ _ c) (live _ _ e),
    fun d i B a b => h.lo d i B a (live _ _ b), h.dom, h.sz⟩, ⟨φ.le_refl, Nat.le_refl _, ?_, .refl _ _⟩⟩
  intro d' hd' hn'
  refine ⟨hn', ?_⟩
  rw [DH.get_del, if_neg]
  intro e; subst e; rw [h1] at hn'; cases hn'
end

end Go.Proofs.YtfmmgggdgpfaaaaGreatDoor.DS
