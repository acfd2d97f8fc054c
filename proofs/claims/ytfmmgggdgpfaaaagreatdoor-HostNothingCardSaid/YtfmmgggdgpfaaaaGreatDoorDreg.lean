/- Regions. -/
import Derived.Test.YtfmmgggdgpfaaaaGreatDoorDany3
namespace Go.Proofs.YtfmmgggdgpfaaaaGreatDoor.DS
open Go.RowKit (Below)
set_option linter.unusedVariables false
set_option linter.unusedSimpArgs false

theorem mem_lookup {e m : Nat} : ∀ {l : List (Nat × Nat)}, l.lookup e = some m → (e, m) ∈ l
  | [], h => by simp at h
  | (x, y) :: l, h => by
    rw [List.lookup_cons] at h
    split at h
    · rename_i he
      cases h
      have : e = x := by simpa using he
      subst this; simp
    · exact List.mem_cons_of_mem _ (mem_lookup h)

theorem predMask_spec {masks : List (Nat × Nat)} {q : Nat} : ∀ {es : List Nat}, (predMask masks es).testBit q = true → ∃ e ∈ es, e = q ∨ ∃ m, (e, m) ∈ masks ∧ m.testBit q = true
  | [], h => by simp [predMask] at h
  | e :: es, h => by
    simp only [predMask, Nat.testBit_or, Bool.or_eq_true] at h
    rcases h with (h | h) | h
    · rw [Nat.testBit_two_pow] at h
      exact ⟨e, by simp, .inl (by simpa using h)⟩
    · cases hl : masks.lookup e with
      | none => rw [hl] at h; simp at h
      | some m => rw [hl] at h; exact ⟨e, by simp, .inr ⟨m, mem_lookup hl, h⟩⟩
    · obtain ⟨e', he, h'⟩ := predMask_spec h
      exact ⟨e', List.mem_cons_of_mem _ he, h'⟩

section
variable {P : Program} {nt : Nat} {ops : Array Oper}

theorem withMasks_len : ∀ (l : List (Nat × Oper)) (masks : List (Nat × Nat)), (withMasks P nt ops l masks).length = l.length
  | [], _ => rfl
  | (i, o) :: l, masks => by simp [withMasks, withMasks_len l]

theorem withMasks_op : ∀ (l : List (Nat × Oper)) (masks : List (Nat × Nat)), (∀ p ∈ l, ops[p.1]? = some p.2) → ∀ x ∈ withMasks P nt ops l masks, ops[x.2.idx]? = some x.1 ∧ x.2.o = cOper P nt ops x.1 ∧ x.2.eff = x.2.o.op.acts
  | [], _, _, x, hx => by simp [withMasks] at hx
  | (i, o) :: l, masks, h, x, hx => by
    simp only [withMasks, List.mem_cons] at hx
    rcases hx with rfl | hx
    · exact ⟨h (i, o) (by simp), rfl, rfl⟩
    · exact withMasks_op l _ (fun p hp => h p (List.mem_cons_of_mem _ hp)) x hx

theorem withMasks_mask : ∀ (l : List (Nat × Oper)) (masks : List (Nat × Nat)), ∀ x ∈ withMasks P nt ops l masks, ∀ q, x.2.mask.testBit q = true →
    ∃ e ∈ edges x.1, e = q ∨ ∃ m, ((e, m) ∈ masks ∨ ∃ y ∈ withMasks P nt ops l masks, y.2.idx = e ∧ y.2.mask = m) ∧ m.testBit q = true
  | [], _, x, hx => by simp [withMasks] at hx
  | (i, o) :: l, masks, x, hx => fun q hq => by
    simp only [withMasks, List.mem_cons] at hx ⊢
    rcases hx with rfl | hx
    · obtain ⟨e, he, h⟩ := predMask_spec hq
      refine ⟨e, he, h.imp id ?_⟩
      rintro ⟨m, h1, h2⟩
      exact ⟨m, .inl h1, h2⟩
    · obtain ⟨e, he, h⟩ := withMasks_mask l _ x hx q hq
      refine ⟨e, he, h.imp id ?_⟩
      rintro ⟨m, h1, h2⟩
      refine ⟨m, ?_, h2⟩
      rcases h1 with h1 | ⟨y, hy, h3, h4⟩
      · rcases List.mem_cons.1 h1 with h1 | h1
        · simp only [Prod.mk.injEq] at h1
          obtain ⟨rfl, rfl⟩ := h1
          exact .inr ⟨_, .inl rfl, rfl, rfl⟩
        · exact .inl h1
      · exact .inr ⟨y, .inr hy, h3, h4⟩

theorem okSeq_pair {n : Nat} : ∀ {l : List (Oper × DItem)}, okSeq n l = true → l.Pairwise (fun p i => okPair p i = true) ∧ ∀ x ∈ l, ∀ e ∈ edges x.1, e < n ∧ e ≠ x.2.idx
  | [], _ => ⟨.nil, fun x hx => by cases hx⟩
  | p :: rest, h => by
    simp only [okSeq, Bool.and_eq_true, List.all_eq_true, decide_eq_true_eq, bne_iff_ne] at h
    obtain ⟨ih1, ih2⟩ := okSeq_pair h.2
    refine ⟨List.pairwise_cons.2 ⟨h.1.1, ih1⟩, fun x hx => ?_⟩
    rcases List.mem_cons.1 hx with rfl | hx
    · exact h.1.2
    · exact ih2 x hx

theorem eager_len {l : List (Nat × Oper)} : ∀ (n d : Nat), (eager l n d).length ≤ n
  | 0, _ => by simp [eager]
  | n + 1, d => by
    simp only [eager]
    split
    · have := eager_len (l := l) n (d ||| 2 ^ (by assumption : Nat × Oper).1)
      simp only [List.length_cons]; omega
    · simp

theorem eager_mem {l : List (Nat × Oper)} : ∀ (n d : Nat), ∀ p ∈ eager l n d, p ∈ l
  | 0, _, p, h => by simp [eager] at h
  | n + 1, d, p, h => by
    simp only [eager] at h
    split at h
    · rename_i q hq
      rcases List.mem_cons.1 h with rfl | h
      · rcases Option.or_eq_some_iff.1 hq with hq | ⟨_, hq⟩
        · exact (List.mem_filter.1 (List.mem_of_find?_eq_some hq)).1
        · exact (List.mem_filter.1 (List.mem_of_head? hq)).1
      · exact eager_mem n _ p h
    · cases h

theorem cItems_spec {id i : Nat} {items : List DItem} (h : cItems P nt id ops = .dregion i items) : ∃ all, Stat P nt ops all ∧ all.map (·.2) = items ∧ all.length ≤ ops.size := by
  unfold cItems at h
  simp only at h
  split at h
  · rename_i hc
    cases h
    obtain ⟨h1, h2⟩ := hc
    obtain ⟨h3, h4⟩ := okSeq_pair h2
    refine ⟨_, ⟨withMasks_op _ _ fun p hp => ?_, h3, h4, fun i hi => ?_, fun x hx q hq => ?_⟩, rfl, ?_⟩
    · have := eager_mem _ _ p hp
      obtain ⟨q, hq, rfl⟩ := List.mem_map.1 this
      have := List.mem_zipIdx_iff_getElem?.1 hq
      simpa using this
    · simp only [List.all_eq_true, List.mem_range, List.any_eq_true, beq_iff_eq] at h1
      exact h1 i hi
    · obtain ⟨e, he, h5⟩ := withMasks_mask _ _ x hx q hq
      refine ⟨e, he, h5.imp (fun z => z) ?_⟩
      rintro ⟨m, h6, h7⟩
      rcases h6 with h6 | ⟨y, hy, h8, h9⟩
      · cases h6
      · exact ⟨y, hy, h8, by rw [h9]; exact h7⟩
    · rw [withMasks_len]; exact eager_len _ _
  · cases h

variable {rec : Rec} {B0 : Nat} {φ : Phi} {H : DH} {w : World} {cs : List Frame} {b : Frame} {k : List Item} {out : DExit × DFr × DH} {fr : DFr} {a : Act}

/-- A region whose order is drawn. -/
theorem region_any (hm : P.follows .mixedOrders = true) (hrec : RecOK P rec) (hR : Rel P B0 φ H w) (hG : GRel P φ) (hF : FRel φ nt fr b a cs) {id i : Nat} {items : List DItem}
    (hc : cItems P nt id ops = .dregion i items) (hrun : ditems P rec items items [] fr H = some out) :
    CRes P B0 φ H w nt b cs (lone (on b a (.code (.region id ops true) :: k)) cs w) k out := by
  obtain ⟨all, hS, rfl, hlen⟩ := cItems_spec hc
  have hst := s_region_draw (P := P) (b := b) (a := a) (k := k) (cs := cs) (w := w) (ops := ops) (id := id)
  simp only [Region.schedule, hm, Bool.true_or, if_true, Region.linearise] at hst
  refine CRes.head (.one hst) ?_
  generalize w.tape w.drawn (.order b.fn id) = t
  have hw : Ext B0 φ H w φ H { w with drawn := w.drawn + 1 } := ⟨φ.le_refl, Nat.le_refl _, fun _ _ h => ⟨h, rfl⟩, ⟨rfl, rfl, rfl, Nat.le_refl _, fun _ _ => rfl⟩⟩
  have hL : Lst ops all (un [] all) (Array.replicate ops.size false) := by
    refine ⟨List.Sublist.refl _, by simp, fun i hi => ?_, fun x hx h => ?_⟩
    · simp only [un, List.map_nil, List.nil_append]
      exact ⟨fun _ => hS.has i hi, fun _ => by simp [hi]⟩
    · have := hS.lt hx
      simp [this] at h
  have hinv : Inv P rec nt ops all B0 φ H w cs b out (Array.replicate ops.size false) [] all [] φ H fr fr.tmps a cs { w with drawn := w.drawn + 1 } :=
    { lst := hL, pnd := fun s => rfl, nod := .nil, bnd := fun p hp => absurd hp (by simp), run := hrun, rel := hR.congr rfl, ext := hw, frel := hF, cst := CsTo.refl hF.ctx }
  obtain ⟨pend', rest', log', K', fr', h1, h2, h3⟩ := absorb hS _ _ _ _ _ hinv
  have hl := congrArg List.length h2
  simp [un] at hl
  exact run_any hrec hS ops.size t _ _ _ _ _ _ _ _ _ _ _ hG h1 h3 (by omega)

theorem dops_nil : dops P rec [] fr H = some (.normal, fr, H) := rfl
theorem dops_cons (o : DOper) (l : List DOper) : dops P rec (o :: l) fr H = match dstep P rec o fr H with | some (.go fr' H') => dops P rec l fr' H' | some (.pan v fr' H') => some (.panic v, fr', H') | none => none := by
  show (@Option.rec DR (fun _ => Option (DExit × DFr × DH)) none _ (dstep P rec o fr H)) = _
  cases dstep P rec o fr H with
  | none => rfl
  | some r => cases r <;> rfl

theorem run_ops (hrec : RecOK P rec) : ∀ (is : List Nat) (φ : Phi) (H : DH) (w : World) (cs : List Frame) (fr : DFr) (a : Act), (∀ i ∈ is, i < ops.size) → Rel P B0 φ H w → GRel P φ → FRel φ nt fr b a cs →
    dops P rec (is.map fun i => cOper P nt ops (ops.getD i default)) fr H = some out → CRes P B0 φ H w nt b cs (lone (on b a (.inRegion ops is :: k)) cs w) k out
  | [], φ, H, w, cs, fr, a, _, hR, hG, hF, hd => by
    rw [List.map_nil, dops_nil] at hd
    cases hd
    exact ⟨φ, a, cs, w, .refl _ _ _ _, hR, hF, CsTo.refl hF.ctx, .one s_region_end⟩
  | i :: is, φ, H, w, cs, fr, a, hlt, hR, hG, hF, hd => by
    have hi : i < ops.size := hlt i (by simp)
    have ho : ops[i]? = some (ops.getD i default) := by simp [hi]
    rw [List.map_cons, dops_cons] at hd
    split at hd
    · rename_i fr' H' hs
      obtain ⟨φ', a', cs', w', hE, hR', hF', hcs, hst⟩ := step_ok (k := k) (rest := is) hrec hR hG hF ho hs
      obtain ⟨φ2, a2, cs2, w2, h1, h2, h3, h4, h5⟩ := CRes.head hst (run_ops hrec is φ' H' w' cs' fr' a' (fun j hj => hlt j (List.mem_cons_of_mem _ hj)) hR' (hG.mono hE.le) hF' hd)
      exact ⟨φ2, a2, cs2, w2, hE.trans h1, h2, h3, hcs.trans h4, h5⟩
    · rename_i v fr' H' hs
      cases hd
      obtain ⟨φ', cs', w', u, todo, hE, hR', hF', hcs, hvu, hst⟩ := step_ok (k := k) (rest := is) hrec hR hG hF ho hs
      exact ⟨φ', a, cs', w', hE, hR', hF', hcs, u, todo, hvu, hst⟩
    · cases hd

theorem region_ord (hrec : RecOK P rec) (hR : Rel P B0 φ H w) (hG : GRel P φ) (hF : FRel φ nt fr b a cs) {id : Nat} (hrun : dops P rec (ops.toList.map (cOper P nt ops)) fr H = some out) :
    CRes P B0 φ H w nt b cs (lone (on b a (.code (.region id ops false) :: k)) cs w) k out := by
  refine CRes.head (.one s_region) (run_ops hrec _ _ _ _ _ _ _ (fun i hi => List.mem_range.1 hi) hR hG hF ?_)
  have : (List.range ops.size).map (fun i => cOper P nt ops (ops.getD i default)) = ops.toList.map (cOper P nt ops) := by
    refine List.ext_getElem (by simp) fun i h1 h2 => ?_
    simp at h1
    simp [h1]
  rw [this]; exact hrun
end
end Go.Proofs.YtfmmgggdgpfaaaaGreatDoor.DS
