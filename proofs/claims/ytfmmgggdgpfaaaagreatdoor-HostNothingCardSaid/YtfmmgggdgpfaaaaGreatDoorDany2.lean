/- A region, whatever its order: each operation that is ready. -/
import Derived.Test.YtfmmgggdgpfaaaaGreatDoorDany
namespace Go.Proofs.YtfmmgggdgpfaaaaGreatDoor.DS
open Go.RowKit (Below)
set_option linter.unusedVariables false
set_option linter.unusedSimpArgs false

section
variable {P : Program} {rec : Rec} {nt : Nat} {ops : Array Oper} {all : List (Oper × DItem)} {B0 : Nat} {φ0 : Phi} {H0 : DH} {w0 : World} {cs0 : List Frame} {b : Frame} {k : List Item} {out : DExit × DFr × DH}
variable {listed : Array Bool} {pend : List PIt} {rest : List (Oper × DItem)} {log log' : List DLog} {φ : Phi} {K K' : DH} {fr : DFr} {tm : Tr DV} {a : Act} {cs : List Frame} {w : World}

/-- What waits ahead of what is ready is apart from it. -/
theorem ahead_indep (hS : Stat P nt ops all) {l1 l2 : List (Oper × DItem)} {x : Oper × DItem} (hL : Lst ops all (l1 ++ x :: l2) listed) (hr : x.2.idx ∈ Region.ready .any ops listed) :
    ∀ p ∈ l1, x.2.mask.testBit p.2.idx = false ∧ Indep p.2.o x.2.o ∧ p.2.eff = false := by
  intro p hp
  have hx : x ∈ all := hL.sub.subset (by simp)
  have hpa : p ∈ all := hL.sub.subset (by simp [hp])
  have hpw := hS.pair.sublist hL.sub
  rw [List.pairwise_append] at hpw
  have h := hpw.2.2 p hp x (by simp)
  have hun : listed.getD p.2.idx true = false := (hL.lst _ (hS.lt hpa)).2 ⟨p, by simp [hp], rfl⟩
  have hm : x.2.mask.testBit p.2.idx = false := by
    cases hc : x.2.mask.testBit p.2.idx with
    | false => rfl
    | true =>
      have := getD_tf (ready_mask hS hL hx hr hc)
      rw [hun] at this; cases this
  simp only [okPair, hm, Bool.false_or, Bool.and_eq_true, Bool.not_eq_true'] at h
  exact ⟨hm, indep_iff h.1.1.1, h.1.1.2⟩

theorem un_split (pre : List PIt) (m : PIt) (post : List PIt) (rest : List (Oper × DItem)) : un (pre ++ m :: post) rest = pre.map (fun p => (p.o, p.d)) ++ (m.o, m.d) :: un post rest := by simp [un]
theorem un_join (pre post : List PIt) (rest : List (Oper × DItem)) : un (pre ++ post) rest = pre.map (fun p => (p.o, p.d)) ++ un post rest := by simp [un]

theorem pend_step (hS : Stat P nt ops all) (hG : GRel P φ) {pre post : List PIt} {m : PIt} (h : Inv P rec nt ops all B0 φ0 H0 w0 cs0 b out listed (pre ++ m :: post) rest log φ K fr tm a cs w)
    (hr : m.d.idx ∈ Region.ready .any ops listed) (rs : List Nat) :
    ∃ φ' tm' a' w', φ.le φ' ∧ step P (lone (on b a (.inRegion ops (m.d.idx :: rs) :: k)) cs w) = .next (lone (on b a' (.inRegion ops rs :: k)) cs w') ∧
      Inv P rec nt ops all B0 φ0 H0 w0 cs0 b out (listed.setIfInBounds m.d.idx true) (pre ++ post) rest log φ' K fr tm' a' cs w' := by
  have hL := h.lst
  rw [un_split] at hL
  have hmem : (m.o, m.d) ∈ all := hL.sub.subset (by simp)
  obtain ⟨ho, hdo, _⟩ := hS.op _ hmem
  simp only at ho hdo
  have hind : ∀ p ∈ pre, Indep p.d.o m.d.o := fun p hp => (ahead_indep hS hL hr (p.o, p.d) (List.mem_map.2 ⟨p, hp, rfl⟩)).2.1
  obtain ⟨hv, hp'⟩ := h.pnd.take hind
  have hL' := Lst.next hS hL hr
  rw [← un_join] at hL'
  have hnod : ((pre ++ post).filterMap (·.blk)).Pairwise (fun x y => x.1 ≠ y.1) :=
    h.nod.sublist (List.Sublist.filterMap _ (List.Sublist.append (List.Sublist.refl _) (List.sublist_cons_self _ _)))
  have hbnd : ∀ p ∈ pre ++ post, ∀ x, p.blk = some x → x.1 < K.next := fun p hp => h.bnd p (by
    rcases List.mem_append.1 hp with hp | hp <;> simp [hp])
  rcases cOper_cases P nt ops m.o with ⟨g, op, hg, hop, he, hlt⟩ | he
  · rw [he] at hdo
    have hdst : m.d.o.dst = m.o.dst := by rw [hdo]
    have hgd : m.d.o.guard = g := by rw [hdo]
    have hopd : m.d.o.op = op := by rw [hdo]
    have hT : TRel φ tm a.tmps := h.frel.tmps
    rw [hdst] at hp'
    rcases hv with ⟨hw, hv, _⟩ | ⟨hw, h2, h3, h4, h5, h6⟩ | ⟨hw, h2, h3, d, B, mk, h4, h5, h6, h7, h8, h9, h10⟩
    · rw [hgd] at hw
      have hwd := want_rel (fr := { fr with tmps := tm }) hT hg (by rw [dwant_wantT]; exact hw)
      have hst := s_op_skip (P := P) (b := b) (a := a) (k := k) (cs := cs) (w := w) (ops := ops) (i := m.d.idx) (rest := rs) (by simp [ho, hwd])
      rw [ho] at hst
      refine ⟨φ, _, _, w, φ.le_refl, hst, hL', hp', hnod, hbnd, h.run, h.rel, h.ext, ?_, h.cst⟩
      have := h.frel.put (v := m.v) (u := undef) (by rw [hv]; exact .of_tuple (LRel.nil _)) hlt
      rw [put_with] at this
      exact this
    · rw [hgd] at hw
      rw [hopd] at h2 h3 h5
      have hwd := want_rel (fr := { fr with tmps := tm }) hT hg (by rw [dwant_wantT]; exact hw)
      obtain ⟨u, hu, hvu⟩ := quiet_use hop h.rel hG hT h2 h3 h5
      have hnd : b.roundOf = none ∨ ∀ c, m.o.op ≠ .defer c := by
        refine .inr fun c hc => ?_
        obtain ⟨callee, args, ts⟩ := c
        cases callee with
        | value f =>
          simp only [cOp, hc, Option.pure_def, Option.bind_eq_bind, Option.bind_eq_some_iff, Option.some.injEq] at hop
          obtain ⟨f', hf, l, hl, rfl⟩ := hop
          simp [DOp.acts] at h2
        | _ => simp [cOp, hc] at hop
      refine ⟨φ, _, _, w, φ.le_refl, s_value ho hwd hnd hu (.inl rfl), hL', hp', hnod, hbnd, h.run, h.rel, h.ext, ?_, h.cst⟩
      have := h.frel.put hvu hlt
      rw [put_with] at this
      exact this
    · rw [hgd] at hw
      rw [hopd] at h2 h3 h5
      have hwd := want_rel (fr := { fr with tmps := tm }) hT hg (by rw [dwant_wantT]; exact hw)
      obtain ⟨hown, obj, n, u, w', hr', e1, e2, e3, e4, e5⟩ := new_use hop h.rel hG hT h2 h3 h5
      have hnd : b.roundOf = none ∨ ∀ c, m.o.op ≠ .defer c := by
        refine .inr fun c hc => ?_
        obtain ⟨callee, args, ts⟩ := c
        cases callee with
        | value f =>
          simp only [cOp, hc, Option.pure_def, Option.bind_eq_bind, Option.bind_eq_some_iff, Option.some.injEq] at hop
          obtain ⟨f', hf, l, hl, rfl⟩ := hop
          simp [DOp.acts] at h2
        | _ => simp [cOp, hc] at hop
      have hle : φ.le (φ.with d ⟨w.heap.size, 0, n⟩) := Phi.le_with _ h8
      obtain ⟨ho', hvu⟩ := e5 _ d hle (Phi.with_self _ _ _)
      refine ⟨φ.with d ⟨w.heap.size, 0, n⟩, _, _, w', hle, s_value ho hwd hnd hr' (.inl rfl), hL', hp'.imp (fun p hp t hi => ?_), hnod, hbnd, h.run, h.rel.allocAt h8 h10 h7 ho' e1, ?_, ?_, h.cst⟩
      · rcases hi with hi | hi | ⟨i1, i2, i3, d', B', mk', i4, i5, i6, i7, i8, i9, i10⟩
        · exact .inl hi
        · exact .inr (.inl hi)
        · refine .inr (.inr ⟨i1, i2, i3, d', B', mk', i4, i5, i6, i7, ?_, i9, i10⟩)
          have hne : d' ≠ d := by
            have hn := h.nod
            rw [List.filterMap_append, List.filterMap_cons, h4, List.pairwise_append] at hn
            rcases List.mem_append.1 hp with hp | hp
            · exact hn.2.2 (d', B', mk') (List.mem_filterMap.2 ⟨p, hp, i4⟩) (d, B, mk) (by simp)
            · exact fun e => (List.pairwise_cons.1 hn.2.1).1 (d', B', mk') (List.mem_filterMap.2 ⟨p, hp, i4⟩) e.symm
          rw [Phi.with_ne _ _ hne]; exact i8
      · refine ⟨Phi.le_trans h.ext.le hle, h.ext.nxt, fun x hx hn => ?_, h.ext.below.trans ⟨e2, e3, e4, ?_, ?_⟩⟩
        · have := h.ext.unm x hx hn
          exact ⟨by rw [Phi.with_ne _ _ (by omega)]; exact this.1, this.2⟩
        · rw [e1]; simp
        · intro q hq
          have := h.rel.sz
          rw [e1, Array.getElem?_push, if_neg (by omega)]
      · have := (h.frel.mono hle).put hvu hlt
        rw [put_with] at this
        rw [← h6] at this
        exact this
  · rw [he] at hdo
    exfalso
    rcases hv with ⟨hw, _⟩ | ⟨_, h2, _⟩ | ⟨_, h2, _⟩
    · rw [hdo] at hw; simp [wantT] at hw
    · rw [hdo] at h2; simp [DOp.acts] at h2
    · rw [hdo] at h2; simp [DOp.acts] at h2
end
end Go.Proofs.YtfmmgggdgpfaaaaGreatDoor.DS
