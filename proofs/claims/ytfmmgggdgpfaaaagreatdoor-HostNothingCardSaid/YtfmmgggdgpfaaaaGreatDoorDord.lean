/- Any order of a region: the twin's one order says what every order gives. -/
import Derived.Test.YtfmmgggdgpfaaaaGreatDoorDpend
namespace Go.Proofs.YtfmmgggdgpfaaaaGreatDoor.DS
open Go.RowKit (Below)
set_option linter.unusedVariables false
set_option linter.unusedSimpArgs false

theorem Rel.allocAt {P : Program} {B0 : Nat} {φ : Phi} {H : DH} {w w' : World} (h : Rel P B0 φ H w) {d n : Nat} {B : DBlk} {o : Obj} (hd : φ d = none) (hlt : d < H.next) (hB : H.get d = some B)
    (ho : ORel P (φ.with d ⟨w.heap.size, 0, n⟩) ⟨w.heap.size, 0, n⟩ B.obj o) (hw : w'.heap = w.heap.push o) : Rel P B0 (φ.with d ⟨w.heap.size, 0, n⟩) H w' := by
  have hle : φ.le (φ.with d ⟨w.heap.size, 0, n⟩) := Phi.le_with _ hd
  refine ⟨?_, ?_, ?_, ?_, ?_⟩
  · intro x i B' h1 h2
    by_cases e : x = d
    · subst e
      rw [Phi.with_self] at h1; cases h1
      rw [hB] at h2; cases h2
      exact ⟨o, by rw [hw]; simp, ho⟩
    · rw [Phi.with_ne _ _ e] at h1
      obtain ⟨o', h3, h4⟩ := h.blk x i B' h1 h2
      have := h.lt_size h1 h2
      refine ⟨o', ?_, h4.mono hle⟩
      rw [hw, Array.getElem?_push, if_neg (by omega)]; exact h3
  · intro x y i i' B1 B2 h1 h1' h2 h2' hown hne
    by_cases e : x = d
    · subst e
      rw [Phi.with_self] at h1; cases h1
      rw [Phi.with_ne _ _ (fun z => hne z.symm)] at h1'
      have := h.lt_size h1' h2'
      show w.heap.size ≠ i'.b
      omega
    · by_cases e' : y = d
      · subst e'
        rw [Phi.with_self] at h1'; cases h1'
        rw [Phi.with_ne _ _ e] at h1
        have := h.lt_size h1 h2
        show i.b ≠ w.heap.size
        omega
      · rw [Phi.with_ne _ _ e] at h1
        rw [Phi.with_ne _ _ e'] at h1'
        exact h.sep x y i i' B1 B2 h1 h1' h2 h2' hown hne
  · intro x i B' h1 h2 hown
    by_cases e : x = d
    · subst e
      rw [Phi.with_self] at h1; cases h1
      exact ⟨h.sz, rfl⟩
    · rw [Phi.with_ne _ _ e] at h1
      exact h.lo x i B' h1 h2 hown
  · intro x i h1
    by_cases e : x = d
    · omega
    · rw [Phi.with_ne _ _ e] at h1
      exact h.dom x i h1
  · rw [hw]; have := h.sz; simp; omega

theorem Rel.grow {P : Program} {B0 : Nat} {φ : Phi} {H : DH} {w : World} (h : Rel P B0 φ H w) (B : DBlk) : Rel P B0 φ (H.new B) w := by
  have hne : ∀ {d i}, φ d = some i → d ≠ H.next := fun {d i} e => by have := h.dom d i e; omega
  refine ⟨?_, ?_, ?_, ?_, h.sz⟩
  · intro d i B' h1 h2; rw [DH.get_new, if_neg (hne h1)] at h2; exact h.blk d i B' h1 h2
  · intro d d' i i' B1 B2 h1 h1' h2 h2'
    rw [DH.get_new, if_neg (hne h1)] at h2
    rw [DH.get_new, if_neg (hne h1')] at h2'
    exact h.sep d d' i i' B1 B2 h1 h1' h2 h2'
  · intro d i B' h1 h2; rw [DH.get_new, if_neg (hne h1)] at h2; exact h.lo d i B' h1 h2
  · intro d i h1; have := h.dom d i h1; rw [DH.next_new]; omega

theorem Ext.grow {B0 : Nat} {φ0 φ : Phi} {H0 H : DH} {w0 w : World} (h : Ext B0 φ0 H0 w0 φ H w) (B : DBlk) : Ext B0 φ0 H0 w0 φ (H.new B) w := by
  refine ⟨h.le, by rw [DH.next_new]; have := h.nxt; omega, fun d hd hn => ?_, h.below⟩
  have := h.unm d hd hn
  refine ⟨this.1, ?_⟩
  rw [DH.get_new, if_neg (by have := h.nxt; omega)]; exact this.2

theorem HLe.new {H : DH} (h : (H.get H.next).isSome = false) (B : DBlk) : HLe H (H.new B) := by
  intro d b hb
  rw [DH.get_new]
  by_cases e : d = H.next
  · subst e; rw [hb] at h; cases h
  · rw [if_neg e]; exact hb

/-- Behind code. -/
def CRes (P : Program) (B0 : Nat) (φ : Phi) (H : DH) (w : World) (nt : Nat) (b : Frame) (cs : List Frame) (m : Machine) (k : List Item) (x : DExit × DFr × DH) : Prop :=
  ∃ φ' a' cs' w', Ext B0 φ H w φ' x.2.2 w' ∧ Rel P B0 φ' x.2.2 w' ∧ FRel φ' nt x.2.1 b a' cs' ∧ CsTo b.kind cs cs' ∧
    match x.1 with
    | .normal => Steps P m (lone (on b a' k) cs' w')
    | .exit id => ∃ k', exitTo id k' = exitTo id k ∧ Steps P m (lone (on b a' (.code (.exit id) :: k')) cs' w')
    | .ret => ∃ k', Steps P m (lone (on b a' (.code .ret :: k')) cs' w')
    | .panic v => ∃ u todo, VRel φ' v u ∧ Steps P m (lone { on b a' todo with mode := .panicking [{ v := u, recovered := false }] } cs' w')

theorem CRes.head {P : Program} {B0 : Nat} {φ : Phi} {H : DH} {w : World} {nt : Nat} {b : Frame} {cs : List Frame} {m m1 : Machine} {k : List Item} {x : DExit × DFr × DH} (hs : Steps P m m1)
    (h : CRes P B0 φ H w nt b cs m1 k x) : CRes P B0 φ H w nt b cs m k x := by
  obtain ⟨φ', a', cs', w', h1, h2, h3, h4, h5⟩ := h
  refine ⟨φ', a', cs', w', h1, h2, h3, h4, ?_⟩
  obtain ⟨e, fr', H'⟩ := x
  cases e with
  | normal => exact hs.trans h5
  | exit id => obtain ⟨k', e1, e2⟩ := h5; exact ⟨k', e1, hs.trans e2⟩
  | ret => obtain ⟨k', e2⟩ := h5; exact ⟨k', hs.trans e2⟩
  | panic v => obtain ⟨u, todo, e1, e2⟩ := h5; exact ⟨u, todo, e1, hs.trans e2⟩

/-- What an order keeps. -/
structure Stat (P : Program) (nt : Nat) (ops : Array Oper) (all : List (Oper × DItem)) : Prop where
  op : ∀ x ∈ all, ops[x.2.idx]? = some x.1 ∧ x.2.o = cOper P nt ops x.1 ∧ x.2.eff = x.2.o.op.acts
  pair : all.Pairwise (fun p i => okPair p i = true)
  edge : ∀ x ∈ all, ∀ e ∈ edges x.1, e < ops.size ∧ e ≠ x.2.idx
  has : ∀ i < ops.size, ∃ x ∈ all, x.2.idx = i
  mask : ∀ x ∈ all, ∀ q, x.2.mask.testBit q = true → ∃ e ∈ edges x.1, e = q ∨ ∃ y ∈ all, y.2.idx = e ∧ y.2.mask.testBit q = true

theorem mem_edges {o : Oper} {e : Nat} : e ∈ edges o ↔ ∃ x ∈ o.after, Region.binds .any x = true ∧ x.on = e := by
  simp [edges, and_assoc]

def un (pend : List PIt) (rest : List (Oper × DItem)) : List (Oper × DItem) := pend.map (fun p => (p.o, p.d)) ++ rest

/-- What is listed. -/
structure Lst (ops : Array Oper) (all un : List (Oper × DItem)) (listed : Array Bool) : Prop where
  sub : un.Sublist all
  lsz : listed.size = ops.size
  lst : ∀ i, i < ops.size → (listed.getD i true = false ↔ ∃ x ∈ un, x.2.idx = i)
  clo : ∀ x ∈ all, listed.getD x.2.idx true = true → ∀ q, x.2.mask.testBit q = true → listed.getD q false = true

section
variable {P : Program} {nt : Nat} {ops : Array Oper} {all us : List (Oper × DItem)} {listed : Array Bool}

theorem getD_tf {q : Nat} (h : listed.getD q false = true) : listed.getD q true = true := by
  rcases Nat.lt_or_ge q listed.size with h' | h'
  · simp [h'] at h ⊢; exact h
  · simp [Array.getElem?_eq_none h'] at h

theorem Stat.lt (hS : Stat P nt ops all) {x : Oper × DItem} (hx : x ∈ all) : x.2.idx < ops.size := (Array.getElem?_eq_some_iff.1 (hS.op x hx).1).1

theorem ready_mask (hS : Stat P nt ops all) (hL : Lst ops all us listed) {x : Oper × DItem} (hx : x ∈ all) (hr : x.2.idx ∈ Region.ready .any ops listed) {q : Nat} (hq : x.2.mask.testBit q = true) :
    listed.getD q false = true := by
  obtain ⟨_, o, ho, hall⟩ := mem_ready.1 hr
  rw [(hS.op x hx).1] at ho
  cases ho
  obtain ⟨e, he, h⟩ := hS.mask x hx q hq
  obtain ⟨e', he', hb, rfl⟩ := mem_edges.1 he
  have h1 := hall e' he' hb
  rcases h with rfl | ⟨y, hy, h2, h3⟩
  · exact h1
  · exact hL.clo y hy (by rw [h2]; exact getD_tf h1) q h3

theorem head_ready (hS : Stat P nt ops all) {x : Oper × DItem} {r : List (Oper × DItem)} (hL : Lst ops all (x :: r) listed) : x.2.idx ∈ Region.ready .any ops listed := by
  have hx : x ∈ all := hL.sub.subset (by simp)
  have hlt := hS.lt hx
  refine mem_ready.2 ⟨(hL.lst _ hlt).2 ⟨x, by simp, rfl⟩, x.1, (hS.op x hx).1, fun e he hb => ?_⟩
  have hem : e.on ∈ edges x.1 := mem_edges.2 ⟨e, he, hb, rfl⟩
  obtain ⟨h1, h2⟩ := hS.edge x hx _ hem
  cases hc : listed.getD e.on false with
  | true => rfl
  | false =>
    have h3 : listed.getD e.on true = false := by
      have : e.on < listed.size := by rw [hL.lsz]; exact h1
      simp [this] at hc ⊢; exact hc
    obtain ⟨y, hy, h4⟩ := (hL.lst _ h1).1 h3
    rcases List.mem_cons.1 hy with rfl | hy
    · exact absurd h4.symm h2
    · have hp := (hS.pair.sublist hL.sub)
      have := (List.pairwise_cons.1 hp).1 y hy
      simp only [okPair, Bool.and_eq_true] at this
      have h5 := this.1.2
      rw [h4] at h5
      simp [hem] at h5

theorem Lst.next (hS : Stat P nt ops all) {l1 l2 : List (Oper × DItem)} {x : Oper × DItem} (hL : Lst ops all (l1 ++ x :: l2) listed) (hr : x.2.idx ∈ Region.ready .any ops listed) :
    Lst ops all (l1 ++ l2) (listed.setIfInBounds x.2.idx true) := by
  have hx : x ∈ all := hL.sub.subset (by simp)
  have hlt := hS.lt hx
  have hp := hS.pair.sublist hL.sub
  refine ⟨(List.Sublist.append (List.Sublist.refl _) (List.sublist_cons_self _ _)).trans hL.sub, by simp [hL.lsz], ?_, ?_⟩
  · intro i hi
    by_cases e : x.2.idx = i
    · subst e
      have h1 : (listed.setIfInBounds x.2.idx true).getD x.2.idx true = true := by
        have : x.2.idx < listed.size := by rw [hL.lsz]; exact hlt
        simp [this]
      rw [h1]
      refine ⟨fun h => absurd h (by simp), ?_⟩
      rintro ⟨y, hy, h2⟩
      exfalso
      rw [List.pairwise_append] at hp
      rcases List.mem_append.1 hy with hy | hy
      · have := hp.2.2 y hy x (by simp)
        simp only [okPair, Bool.and_eq_true, bne_iff_ne] at this
        exact this.2 h2
      · have := (List.pairwise_cons.1 hp.2.1).1 y hy
        simp only [okPair, Bool.and_eq_true, bne_iff_ne] at this
        exact this.2 h2.symm
    · rw [getD_set_ne true e, hL.lst i hi]
      constructor
      · rintro ⟨y, hy, h2⟩
        refine ⟨y, ?_, h2⟩
        simp only [List.mem_append, List.mem_cons] at hy ⊢
        rcases hy with hy | rfl | hy
        · exact .inl hy
        · exact absurd h2 e
        · exact .inr hy
      · rintro ⟨y, hy, h2⟩
        refine ⟨y, ?_, h2⟩
        simp only [List.mem_append, List.mem_cons] at hy ⊢
        rcases hy with hy | hy
        · exact .inl hy
        · exact .inr (.inr hy)
  · intro y hy h1 q hq
    by_cases e : x.2.idx = y.2.idx
    · exact getD_set_true (ready_mask hS hL hy (e ▸ hr) hq)
    · rw [getD_set_ne true e] at h1
      exact getD_set_true (hL.clo y hy h1 q hq)
end
end Go.Proofs.YtfmmgggdgpfaaaaGreatDoor.DS
