/- The operations that change memory. -/
import Derived.Test.YtfmmgggdgpfaaaaGreatDoorDop7
import Derived.Lib.UnsafeStr
namespace Go.Proofs.YtfmmgggdgpfaaaaGreatDoor.DS
open Go.RowKit (Below)
set_option linter.unusedVariables false
set_option linter.unusedSimpArgs false

theorem putAt_get {α : Type} : ∀ (vs cs : List α) (n j : Nat), (putAt cs n vs)[j]? = if n ≤ j ∧ j < n + vs.length ∧ j < cs.length then vs[j - n]? else cs[j]?
  | [], cs, n, j => by
    rw [if_neg (by simp; omega)]; rfl
  | v :: vs, cs, n, j => by
    rw [putAt, putAt_get vs (cs.set n v) (n + 1) j, List.length_set, List.getElem?_set]
    by_cases h : n = j
    · subst h
      rw [if_neg (by omega)]
      simp
      by_cases h2 : n < cs.length
      · simp [h2]
      · simp [h2]
    · by_cases h2 : n + 1 ≤ j ∧ j < n + 1 + vs.length ∧ j < cs.length
      · rw [if_pos h2, if_pos (by simp; omega)]
        rw [show j - n = (j - (n + 1)) + 1 from by omega]
        simp
      · rw [if_neg h2, if_neg h, if_neg (by simp; omega)]

theorem setCells_heap (b : Nat) : ∀ (vs : List Value) (o : Nat) (w : World) (c : Array Value) (e : TypeId) (fz : Nat × Nat), w.heap[b]? = some (.cells c e fz) →
    (w.setCells b o vs).heap[b]? = some (.cells (putAt c.toList o vs).toArray e fz) ∧ (∀ k, k ≠ b → (w.setCells b o vs).heap[k]? = w.heap[k]?) ∧
    (w.setCells b o vs).heap.size = w.heap.size ∧ (w.setCells b o vs).os = w.os ∧ (w.setCells b o vs).tape = w.tape ∧ (w.setCells b o vs).output = w.output
  | [], o, w, c, e, fz, h => ⟨by simpa [World.setCells, putAt] using h, fun _ _ => rfl, rfl, rfl, rfl, rfl⟩
  | v :: vs, o, w, c, e, fz, h => by
    have h1 : (w.setCell ⟨b, o, none⟩ v).heap[b]? = some (.cells (c.setIfInBounds o v) e fz) := by
      simp [World.setCell, Array.getElem?_modify, h]
    obtain ⟨g1, g2, g3, g4, g5, g6⟩ := setCells_heap b vs (o + 1) (w.setCell ⟨b, o, none⟩ v) _ e fz h1
    refine ⟨by simpa [World.setCells, putAt] using g1, fun k hk => ?_, ?_, g4, g5, g6⟩
    · rw [World.setCells, g2 k hk]
      exact Below.heap_setCell w ⟨b, o, none⟩ v k hk
    · rw [World.setCells, g3]; simp [World.setCell]

section
variable {P : Program} {B0 : Nat} {φ : Phi} {H H' : DH} {w : World} {fr : DFr} {a : Act} {o : Oper} {op : DOp} {x : DNx}

/-- A block of the call's own, used up and there again under a new number. -/
theorem Rel.move (h : Rel P B0 φ H w) {d : Nat} {i : PI} {B : DBlk} (h1 : φ d = some i) (h2 : H.get d = some B) (hown : B.own = true) (y : DObj) (ob : Obj) (w' : World)
    (ho : ORel P (φ.with H.next i) i y ob) (hs : w'.heap.size = w.heap.size) (hb : w'.heap[i.b]? = some ob) (hne : ∀ k, k ≠ i.b → w'.heap[k]? = w.heap[k]?)
    (e1 : w'.os = w.os) (e2 : w'.tape = w.tape) (e3 : w'.output = w.output) :
    Rel P B0 (φ.with H.next i) ((H.del d).new { own := true, obj := y }) w' ∧ Ext B0 φ H w (φ.with H.next i) ((H.del d).new { own := true, obj := y }) w' := by
  have hle : φ.le (φ.with H.next i) := Phi.le_with _ (h.none_of_ge (Nat.le_refl _))
  have hdn : d ≠ H.next := by have := h.dom d i h1; omega
  have hget : ∀ d', ((H.del d).new { own := true, obj := y }).get d' = if d' = H.next then some { own := true, obj := y } else if d' = d then none else H.get d' := by
    intro d'; rw [DH.get_new, DH.get_del]; rfl
  refine ⟨⟨?_, ?_, ?_, ?_, ?_⟩, ⟨hle, ?_, ?_, ?_⟩⟩
  · intro d' i' B' g1 g2
    rw [hget] at g2
    by_cases e : d' = H.next
    · subst e
      rw [Phi.with_self] at g1; cases g1
      rw [if_pos rfl] at g2; cases g2
      exact ⟨ob, hb, ho⟩
    · rw [Phi.with_ne _ _ e] at g1
      rw [if_neg e] at g2
      by_cases e' : d' = d
      · rw [if_pos e'] at g2; cases g2
      · rw [if_neg e'] at g2
        obtain ⟨o', h3, h4⟩ := h.blk d' i' B' g1 g2
        refine ⟨o', ?_, h4.mono hle⟩
        rw [hne _ (fun x => h.sep d d' i i' B B' h1 g1 h2 g2 hown (fun y => e' y.symm) x.symm)]
        exact h3
  · intro d1 d2 i1 i2 B1 B2 k1 k2 g1 g2 ho' hne'
    rw [hget] at g1 g2
    by_cases e1 : d1 = H.next
    · subst e1
      rw [Phi.with_self] at k1; cases k1
      rw [if_neg (fun z => hne' z.symm)] at g2
      rw [Phi.with_ne _ _ (fun z => hne' z.symm)] at k2
      by_cases e' : d2 = d
      · rw [if_pos e'] at g2; cases g2
      · rw [if_neg e'] at g2
        exact h.sep d d2 i i2 B B2 h1 k2 h2 g2 hown (fun z => e' z.symm)
    · rw [if_neg e1] at g1
      rw [Phi.with_ne _ _ e1] at k1
      by_cases e1' : d1 = d
      · rw [if_pos e1'] at g1; cases g1
      · rw [if_neg e1'] at g1
        by_cases e2 : d2 = H.next
        · subst e2
          rw [Phi.with_self] at k2; cases k2
          intro z
          exact h.sep d d1 i i1 B B1 h1 k1 h2 g1 hown (fun z => e1' z.symm) z.symm
        · rw [if_neg e2] at g2
          rw [Phi.with_ne _ _ e2] at k2
          by_cases e2' : d2 = d
          · rw [if_pos e2'] at g2; cases g2
          · rw [if_neg e2'] at g2
            exact h.sep d1 d2 i1 i2 B1 B2 k1 k2 g1 g2 ho' hne'
  · intro d' i' B' g1 g2 ho'
    rw [hget] at g2
    by_cases e : d' = H.next
    · subst e
      rw [Phi.with_self] at g1; cases g1
      exact h.lo d i B h1 h2 hown
    · rw [Phi.with_ne _ _ e] at g1
      rw [if_neg e] at g2
      by_cases e' : d' = d
      · rw [if_pos e'] at g2; cases g2
      · rw [if_neg e'] at g2
        exact h.lo d' i' B' g1 g2 ho'
  · intro d' i' g1
    show d' < H.next + 1
    by_cases e : d' = H.next
    · omega
    · rw [Phi.with_ne _ _ e] at g1
      have := h.dom d' i' g1; omega
  · rw [hs]; exact h.sz
  · show H.next ≤ H.next + 1; omega
  · intro d' hd' hn'
    have e : d' ≠ H.next := by omega
    have e' : d' ≠ d := by rintro rfl; rw [h1] at hn'; cases hn'
    exact ⟨by rw [Phi.with_ne _ _ e]; exact hn', by rw [hget, if_neg e, if_neg e']⟩
  · refine ⟨e1, e2, e3, by rw [hs]; exact Nat.le_refl _, fun k hk => hne k ?_⟩
    have := (h.lo d i B h1 h2 hown).1
    omega

/-- An operation that may change memory. -/
def VRes (P : Program) (B0 : Nat) (φ : Phi) (w : World) (H : DH) (v : DV) (H' : DH) (r : Result Next) : Prop :=
  ∃ φ' w' u n, r = .ok n w' ∧ (n = .value u ∨ (n = .skip ∧ u = undef)) ∧ Ext B0 φ H w φ' H' w' ∧ Rel P B0 φ' H' w' ∧ VRel φ' v u

theorem okList_one {φ : Phi} {vs : List DV} {us : List Value} (h : okList vs = true) (hl : LRel φ vs us) : ∀ u ∈ us, u.oneCell' = true := by
  intro u hu
  obtain ⟨j, hj, rfl⟩ := List.getElem_of_mem hu
  have hj' : j < vs.length := by rw [hl.1]; exact hj
  have hv := hl.2 j vs[j] _ (List.getElem?_eq_getElem hj') (List.getElem?_eq_getElem hj)
  exact hv.oneCell (by simp only [okList, List.all_eq_true] at h; exact h _ (List.getElem_mem hj'))


theorem e_store (hR : Rel P B0 φ H w) (hG : GRel P φ) (hT : TRel φ fr.tmps a.tmps) (t : TypeId) (y z : Operand) (n : Nat) {y' z' : DOpd} (ho : o.op = .store t y z) (hs : sizeT P t = some n) (hy : cOpd P y = some y') (hz : cOpd P z = some z')
    (hd : dstore H n (fr.eval y') (fr.eval z') = some H') : VRes P B0 φ w H dundef H' ((execOp a.eval o).run P w) := by
  have hp := opd_rel hG hT hy
  have hq := opd_rel hG hT hz
  simp only [dstore] at hd
  simp only [execOp, ho]
  generalize fr.eval y' = vy at *
  generalize a.eval y = uy at *
  generalize fr.eval z' = vz at *
  generalize a.eval z = uz at *
  split at hd
  · rename_i d off vs hvs
    obtain ⟨i, hi, rfl⟩ : ∃ i, φ d = some i ∧ uy = .pointer (some ⟨i.b, i.base + off, none⟩) := by
      cases hp; exact ⟨_, by assumption, rfl⟩
    split at hd
    · rename_i cs e frz ex mk hg
      split at hd
      · rename_i hc
        obtain ⟨hl, hle, hok, hfrz⟩ := hc
        cases hd
        have hcell := hq.cells hvs
        obtain ⟨ob, hob, c, lo, hi', rfl, hsz, hfit, hex, hrel, hmk, hfr⟩ := hR.blk d i _ hi hg
        have hbase := (hR.lo d i _ hi hg rfl).2
        have hul : uz.cells.toList.length = n := by rw [← hcell.1, hl]
        have hus : uz.cells.size = vs.length := by have := hcell.1; simp at this; omega
        have hcl : c.toList.length = c.size := by simp
        have h1 : ∀ j, j < uz.cells.toList.length → (w.cell? ⟨i.b, i.base + off + 0 + j, none⟩).isSome = true := by
          intro j hj
          have : i.base + off + 0 + j < c.size := by omega
          simp [World.cell?, hob, this]
          omega
        have h2 : ∀ j, j < uz.cells.toList.length → w.frozen? ⟨i.b, i.base + off + 0 + j, none⟩ = false := by
          intro j hj
          simp only [World.frozen?, hob]
          by_cases hq : lo ≤ i.base + off + 0 + j ∧ i.base + off + 0 + j < hi'
          · have := hfr _ hq.1 hq.2
            omega
          · simp
            omega
        have hst := run_storeCells_cells (P := P) i.b (i.base + off) uz.cells.toList 0 w h1 h2 (okList_one hok hcell)
        obtain ⟨g1, g2, g3, g4, g5, g6⟩ := setCells_heap i.b uz.cells.toList (i.base + off + 0) w c e (lo, hi') hob
        have hnew : ORel P φ i (.cells (putAt cs off vs) e frz ex mk) (.cells (putAt c.toList (i.base + off + 0) uz.cells.toList).toArray e (lo, hi')) := by
          refine ⟨_, lo, hi', rfl, by simp [putAt_length, hsz], by rw [putAt_length]; exact hfit, by rw [putAt_length]; exact hex, ?_, hmk, hfr⟩
          refine ⟨by simp [putAt_length]; omega, fun j v u h1 h2 => ?_⟩
          simp only [hbase, List.drop_zero, Nat.zero_add, Nat.add_zero] at h2 hrel
          rw [putAt_get] at h1
          rw [List.getElem?_take] at h2
          split at h2
          · rename_i hjl
            rw [putAt_length] at hjl
            rw [putAt_get] at h2
            by_cases hin : off ≤ j ∧ j < off + vs.length ∧ j < cs.length
            · rw [if_pos hin] at h1
              rw [if_pos (by refine ⟨by omega, ?_, ?_⟩ <;> simp <;> omega)] at h2
              exact hcell.2 _ v u h1 h2
            · rw [if_neg hin] at h1
              rw [if_neg (by rintro ⟨q1, q2, q3⟩; simp at q2 q3; omega)] at h2
              exact hrel.2 j v u h1 (by rw [List.getElem?_take, if_pos hjl]; exact h2)
          · exact nomatch h2
        obtain ⟨hR', hE⟩ := hR.update hi hg rfl _ _ (w.setCells i.b (i.base + off + 0) uz.cells.toList) hnew g3 g1 g2 g4 g5 g6
        refine ⟨φ, _, undef, .skip, ?_, .inr ⟨rfl, rfl⟩, hE, hR', .of_tuple (LRel.nil _)⟩
        have hsz' : uz.cells.size = n := by simpa using hul
        simp [Instr.storeAt, Instr.sureAddr, storeVar, sizeT_run hs, hsz', hst]
      · cases hd
    · cases hd
  · cases hd
end
end Go.Proofs.YtfmmgggdgpfaaaaGreatDoor.DS
