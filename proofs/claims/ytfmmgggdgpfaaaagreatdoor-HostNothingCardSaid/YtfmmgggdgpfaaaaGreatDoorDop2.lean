/- The quiet operations of the twin are those of the model: memory, parts, places. -/
import Derived.Test.YtfmmgggdgpfaaaaGreatDoorDop1
namespace Go.Proofs.YtfmmgggdgpfaaaaGreatDoor.DS
set_option linter.unusedVariables false
set_option linter.unusedSimpArgs false
open Go.RowKit (Below)

def QRes (P : Program) (φ : Phi) (w : World) (H : DH) (x : DNx) (H' : DH) (r : Result Next) : Prop := ∃ v, x = .val v ∧ H' = H ∧ Quiet P φ w v r

theorem q_ofRun {P : Program} {φ : Phi} {w : World} {H : DH} {v : DV} {u : Value} {s : Sem Value} (h : s.run P w = .ok u w) (hv : VRel φ v u) :
    QRes P φ w H (.val v) H ((do pure (Next.value (← s)) : Sem Next).run P w) :=
  ⟨v, rfl, rfl, u, by simp [h], hv⟩

theorem isAggT_run {P : Program} {t : TypeId} {b : Bool} (h : isAggT P t = some b) (w : World) : (isAgg t).run P w = .ok b w := by
  unfold isAggT at h
  split at h
  · rename_i d hd; cases h; simp [isAgg, run_underlying hd]
  · rename_i d e hd; cases h; simp [isAgg, run_underlying hd]
  · rename_i d hn1 hn2 hd
    cases h
    simp only [isAgg, Sem.run_bind, run_underlying hd, Result.andThen_ok]
    cases d <;> simp_all
  · cases h

theorem sizeT_run {P : Program} {t : TypeId} {n : Nat} (h : sizeT P t = some n) (w : World) : (sizeOf t).run P w = .ok n w := by
  obtain ⟨i, hi, rfl⟩ := Option.map_eq_some_iff.1 h
  simp [sizeOf, typeInfo, hi]

theorem und_run {P : Program} {t : TypeId} {d : TypeDesc} (h : P.underlying t = some d) (w : World) : (underlying t).run P w = .ok d w := run_underlying h w

section
variable {P : Program} {B0 : Nat} {φ : Phi} {H H' : DH} {w : World} {fr : DFr} {a : Act} {o : Oper} {op : DOp} {x : DNx}

theorem row_obj (hR : Rel P B0 φ H w) {d : Nat} {i : PI} {cs : List DV} (hd : φ d = some i) (hrow : H.row d = some cs) :
    ∃ c e fz, w.heap[i.b]? = some (.cells c e fz) ∧ c.size = i.csize ∧ i.base + cs.length ≤ i.csize ∧ LRel φ cs ((c.toList.drop i.base).take cs.length) := by
  unfold DH.row at hrow
  split at hrow
  · rename_i own cs' e frz ex mk hg
    cases hrow
    obtain ⟨o, ho, c, lo, hi, rfl, h2, h3, _, h5, _⟩ := hR.blk d i _ hd hg
    exact ⟨c, e, (lo, hi), ho, h2, h3, h5⟩
  · cases hrow

theorem row_cell (hR : Rel P B0 φ H w) {d : Nat} {i : PI} {cs : List DV} (hd : φ d = some i) (hrow : H.row d = some cs) {j : Nat} {v : DV} (hj : cs[j]? = some v) :
    ∃ u, w.cell? ⟨i.b, i.base + j, none⟩ = some u ∧ VRel φ v u := by
  obtain ⟨c, e, fz, hb, hs, hl, hrel⟩ := row_obj hR hd hrow
  obtain ⟨u, hu, hv⟩ := hrel.get hj
  refine ⟨u, ?_, hv⟩
  rw [List.getElem?_take] at hu
  split at hu
  · rw [List.getElem?_drop] at hu
    simp only [World.cell?, hb, Option.isSome_none, Bool.false_eq_true, if_false]
    rw [← hu]; simp
  · cases hu

/-- Cells side by side, read. -/
theorem row_cells (hR : Rel P B0 φ H w) {d off n : Nat} {i : PI} {cs : List DV} (hd : φ d = some i) (hrow : H.row d = some cs) (hn : off + n ≤ cs.length) :
    ∃ us : List Value, us.length = n ∧ LRel φ ((cs.drop off).take n) us ∧ ∀ j u, us[j]? = some u → w.cell? ((⟨i.b, i.base + off, none⟩ : Addr).add j) = some u := by
  obtain ⟨c, e, fz, hb, hs, hl, hrel⟩ := row_obj hR hd hrow
  refine ⟨((((c.toList.drop i.base).take cs.length).drop off).take n), ?_, (hrel.drop off).take n, ?_⟩
  · simp; omega
  · intro j u hu
    rw [List.getElem?_take] at hu
    split at hu
    · rename_i hj
      rw [List.getElem?_drop, List.getElem?_take] at hu
      split at hu
      · rw [List.getElem?_drop] at hu
        rw [Addr.add_lit]
        simp only [World.cell?, hb, Option.isSome_none, Bool.false_eq_true, if_false]
        rw [← hu, Nat.add_assoc]; simp
      · cases hu
    · cases hu

theorem run_loadVar_rel (hR : Rel P B0 φ H w) {t : TypeId} {agg : Bool} {n : Nat} (hagg : isAggT P t = some agg) (hn : sizeT P t = some n) {d off : Nat} {i : PI} (hd : φ d = some i) {v : DV}
    (h : dload H agg n (.ptr d off) = some v) : ∃ u, (loadVar t ⟨i.b, i.base + off, none⟩).run P w = .ok u w ∧ VRel φ v u := by
  simp only [dload] at h
  split at h
  · rename_i cs hrow
    cases agg with
    | true =>
      simp only [if_true] at h
      split at h
      · rename_i hle
        cases h
        obtain ⟨us, hl, hrel, hc⟩ := row_cells hR hd hrow hle
        have hrun := run_loadCells_list (P := P) w _ us hc
        rw [hl] at hrun
        refine ⟨.agg us.toArray, ?_, .of_agg (by simpa using hrel)⟩
        simp [loadVar, isAggT_run hagg, sizeT_run hn, hrun]
      · cases h
    | false =>
      simp only [Bool.false_eq_true, if_false] at h
      rw [nth_eq] at h
      obtain ⟨u, hu, hv⟩ := row_cell hR hd hrow h
      refine ⟨u, ?_, hv⟩
      simp [loadVar, isAggT_run hagg, load, Sem.run, hu]
  · cases h


theorem q_move (hR : Rel P B0 φ H w) (hG : GRel P φ) (hT : TRel φ fr.tmps a.tmps) (y : Operand) (ho : o.op = .move y ∨ o.op = .assign y) (hc : cOp P o = some op) (hd : dop P fr.eval H op = some (x, H')) :
    QRes P φ w H x H' ((execOp a.eval o).run P w) := by
  have _ := hR
  have h1 : ∃ y', cOpd P y = some y' ∧ op = .move y' := by
    rcases ho with ho | ho <;> simp only [cOp, ho, Option.map_eq_some_iff] at hc <;> obtain ⟨y', h1, rfl⟩ := hc <;> exact ⟨y', h1, rfl⟩
  obtain ⟨y', h1, rfl⟩ := h1
  simp only [dop, dop_move, Option.some.injEq, Prod.mk.injEq] at hd
  obtain ⟨rfl, rfl⟩ := hd
  refine ⟨_, rfl, rfl, a.eval y, ?_, opd_rel hG hT h1⟩
  rcases ho with ho | ho <;> simp [execOp, ho]

theorem q_pick (hR : Rel P B0 φ H w) (hG : GRel P φ) (hT : TRel φ fr.tmps a.tmps) (c y z : Operand) (ho : o.op = .pick c y z) (hc : cOp P o = some op) (hd : dop P fr.eval H op = some (x, H')) :
    QRes P φ w H x H' ((execOp a.eval o).run P w) := by
  have _ := hR
  simp only [cOp, ho, Option.pure_def, Option.bind_eq_bind, Option.bind_eq_some_iff, Option.some.injEq] at hc
  obtain ⟨c', hc', y', hy, z', hz, rfl⟩ := hc
  have hcv := opd_rel hG hT hc'
  have hyv := opd_rel hG hT hy
  have hzv := opd_rel hG hT hz
  simp only [dop, dop_pick] at hd
  simp only [execOp, ho]
  generalize fr.eval c' = vc at *
  generalize a.eval c = uc at *
  cases hcv <;> simp only [reduceCtorEq, Option.some.injEq, Prod.mk.injEq] at hd
  rename_i b
  obtain ⟨rfl, rfl⟩ := hd
  refine ⟨_, rfl, rfl, if b then a.eval y else a.eval z, ?_, ?_⟩
  · simp [asBool]
  · cases b
    · exact hzv
    · exact hyv

theorem q_load (hR : Rel P B0 φ H w) (hG : GRel P φ) (hT : TRel φ fr.tmps a.tmps) (t : TypeId) (y : Operand) (ho : o.op = .load t y) (hc : cOp P o = some op) (hd : dop P fr.eval H op = some (x, H')) :
    QRes P φ w H x H' ((execOp a.eval o).run P w) := by
  simp only [cOp, ho, Option.pure_def, Option.bind_eq_bind, Option.bind_eq_some_iff, Option.some.injEq] at hc
  obtain ⟨agg, hagg, n, hn, y', hy, rfl⟩ := hc
  simp only [dop, dop_load, Option.map_eq_some_iff, Prod.mk.injEq] at hd
  obtain ⟨v, hv, rfl, rfl⟩ := hd
  have hp := opd_rel hG hT hy
  simp only [execOp, ho]
  generalize fr.eval y' = vy at *
  generalize a.eval y = uy at *
  cases hp <;> simp only [dload, reduceCtorEq] at hv
  rename_i d off i hi
  obtain ⟨u, hu, hvu⟩ := run_loadVar_rel hR hagg hn hi hv
  exact q_ofRun (by simp [Instr.loadAt, Instr.sureAddr, hu]) hvu

theorem q_nilCheck (hR : Rel P B0 φ H w) (hG : GRel P φ) (hT : TRel φ fr.tmps a.tmps) (y : Operand) (ho : o.op = .nilCheck y) (hc : cOp P o = some op) (hd : dop P fr.eval H op = some (x, H')) :
    QRes P φ w H x H' ((execOp a.eval o).run P w) := by
  have _ := hR
  simp only [cOp, ho, Option.map_eq_some_iff] at hc
  obtain ⟨y', hy, rfl⟩ := hc
  have hp := opd_rel hG hT hy
  simp only [dop, dop_nilCheck] at hd
  simp only [execOp, ho]
  generalize fr.eval y' = vy at *
  generalize a.eval y = uy at *
  have hp' := hp
  cases hp <;> simp only [reduceCtorEq, Option.some.injEq, Prod.mk.injEq] at hd <;> obtain ⟨rfl, rfl⟩ := hd <;> exact ⟨_, rfl, rfl, _, rfl, hp'⟩

theorem q_bin (hR : Rel P B0 φ H w) (hG : GRel P φ) (hT : TRel φ fr.tmps a.tmps) {y' z' : DOpd} (bo : BinOp) (t t' : TypeId) (y z : Operand) (ho : o.op = .binOp bo t y z t') (hy : cOpd P y = some y') (hz : cOpd P z = some z')
    (hd : dop P fr.eval H (.bin bo y' z') = some (x, H')) :
    QRes P φ w H x H' ((execOp a.eval o).run P w) := by
  have _ := hR
  have hyv := opd_rel hG hT hy
  have hzv := opd_rel hG hT hz
  simp only [dop, dop_bin, Option.map_eq_some_iff, Prod.mk.injEq] at hd
  obtain ⟨v, hv, rfl, rfl⟩ := hd
  simp only [execOp, ho]
  generalize fr.eval y' = vy at *
  generalize fr.eval z' = vz at *
  generalize a.eval y = uy at *
  generalize a.eval z = uz at *
  cases hyv <;> simp only [dbin, reduceCtorEq] at hv <;> cases hzv <;> simp only [reduceCtorEq] at hv
  · rename_i k m k' n
    have hg : ∀ w, (eqGuard bo t y z (.int k m) (.int k' n)).run P w = .ok () w := by intro w; cases bo <;> simp [eqGuard]
    by_cases hs : bo = .shl
    · subst hs
      simp only at hv
      split at hv
      · cases hv
      · rename_i hneg
        cases hv
        exact q_ofRun (u := .int k (k.wrap (m * 2 ^ (min n.toNat k.bits)))) (by simp only [Sem.run_bind, hg, Result.andThen_ok]; simp [binOp, Op.shift, hneg]) (.int _ _)
    · by_cases hr : bo = .shr
      · subst hr
        simp only at hv
        split at hv
        · cases hv
        · rename_i hneg
          cases hv
          exact q_ofRun (u := .int k (m.fdiv (2 ^ (min n.toNat k.bits)))) (by simp only [Sem.run_bind, hg, Result.andThen_ok]; simp [binOp, Op.shift, hneg]) (.int _ _)
      · have hv' : k = k' ∧ dintbin bo k m n = some v := by
          cases bo <;> simp only at hv <;> first
            | exact absurd rfl hs
            | exact absurd rfl hr
            | (split at hv <;> first | exact ⟨by assumption, hv⟩ | (cases hv; done))
        obtain ⟨rfl, hv'⟩ := hv'
        obtain ⟨u, hu, hvu⟩ := run_dintbin (P := P) (φ := φ) hv' hs hr w t
        exact q_ofRun (by simp only [Sem.run_bind, hg, Result.andThen_ok]; exact hu) hvu
  · rename_i s s'
    have hg : ∀ w, (eqGuard bo t y z (.string s) (.string s')).run P w = .ok () w := by intro w; cases bo <;> simp [eqGuard]
    obtain ⟨u, hu, hvu⟩ := run_dstrbin (P := P) (φ := φ) hv w t
    exact q_ofRun (by simp only [Sem.run_bind, hg, Result.andThen_ok]; exact hu) hvu

theorem q_un (hR : Rel P B0 φ H w) (hG : GRel P φ) (hT : TRel φ fr.tmps a.tmps) (uo : UnOp) (t : TypeId) (y : Operand) (ho : o.op = .unOp uo t y) (hc : cOp P o = some op) (hd : dop P fr.eval H op = some (x, H')) :
    QRes P φ w H x H' ((execOp a.eval o).run P w) := by
  have _ := hR
  simp only [cOp, ho, Option.pure_def, Option.bind_eq_bind, Option.bind_eq_some_iff, Option.some.injEq] at hc
  obtain ⟨y', hy, rfl⟩ := hc
  have hp := opd_rel hG hT hy
  simp only [dop, dop_un] at hd
  simp only [execOp, ho]
  generalize fr.eval y' = vy at *
  generalize a.eval y = uy at *
  cases hp <;> cases uo <;> simp only [reduceCtorEq, Option.some.injEq, Prod.mk.injEq, Option.map_eq_some_iff] at hd
  · obtain ⟨rfl, rfl⟩ := hd
    rename_i b
    exact q_ofRun (u := .bool !b) (by simp [Op.unary]) (.bool _)
  · obtain ⟨rfl, rfl⟩ := hd
    rename_i k n
    exact q_ofRun (u := .int k (k.wrap (0 - n))) (by simp [Op.unary, Op.intArith]) (by rw [dwrap_eq]; constructor)
  · obtain ⟨v, hv, rfl, rfl⟩ := hd
    rename_i k n
    cases hv
    exact q_ofRun (u := .int k (dxor k (if k.signed then -1 else k.max) n)) (by simp only [Op.unary, Op.intBits, dxor]; rfl) (.int _ _)
end
end Go.Proofs.YtfmmgggdgpfaaaaGreatDoor.DS
