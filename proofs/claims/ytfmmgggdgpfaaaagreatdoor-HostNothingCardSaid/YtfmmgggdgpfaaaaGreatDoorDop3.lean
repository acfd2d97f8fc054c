/- The quiet operations: comparisons, conversions, parts, places. -/
import Derived.Test.YtfmmgggdgpfaaaaGreatDoorDop2
namespace Go.Proofs.YtfmmgggdgpfaaaaGreatDoor.DS
open Go.RowKit (Below)
set_option linter.unusedVariables false
set_option linter.unusedSimpArgs false

section
variable {P : Program} {B0 : Nat} {φ : Phi} {H H' : DH} {w : World} {fr : DFr} {a : Act} {o : Oper} {op : DOp} {x : DNx}

theorem beq_addr (b p q : Nat) : ((⟨b, p, none⟩ : Addr) == ⟨b, q, none⟩) = decide (p = q) := by
  by_cases h : p = q
  · subst h; simp
  · have : ((⟨b, p, none⟩ : Addr) == ⟨b, q, none⟩) = false := by
      rw [beq_eq_false_iff_ne]; intro e; injection e; contradiction
    rw [this, decide_eq_false h]

theorem run_deqIn (D : Nat) {t : TypeId} {ty : EqTy} {lit b : Bool} {v1 v2 : DV} {u1 u2 : Value} (hty : cEqTy P t = some ty) (h : deq ty lit v1 v2 = some b) (h1 : VRel φ v1 u1) (h2 : VRel φ v2 u2) :
    (Op.equalIn (D + 1) t u1 u2).run P w = .ok b w := by
  unfold cEqTy at hty
  split at hty
  · rename_i hu; cases hty
    cases h1 <;> simp only [deq, reduceCtorEq, false_and, if_false, if_true] at h <;> cases h2 <;> simp only [reduceCtorEq, false_and, if_false, Option.some.injEq] at h
    subst h; (simp only [Op.equalIn, Sem.run_bind, run_underlying hu, Result.andThen_ok]; rfl)
  · rename_i e hu
    split at hty
    · rename_i n hn
      split at hty
      · cases hty
      · rename_i hn0
        cases hty
        cases h1 <;> simp only [deq, reduceCtorEq, false_and, if_false, if_true, true_and] at h <;> cases h2 <;> simp only [reduceCtorEq, false_and, if_false, Option.some.injEq] at h
        · subst h; (simp only [Op.equalIn, Sem.run_bind, run_underlying hu, Result.andThen_ok]; rfl)
        · subst h; (simp only [Op.equalIn, Sem.run_bind, run_underlying hu, Result.andThen_ok]; rfl)
        · subst h; (simp only [Op.equalIn, Sem.run_bind, run_underlying hu, Result.andThen_ok]; rfl)
        · rename_i d o i hi d' o' i' hi'
          split at h
          · rename_i hd
            subst hd
            rw [hi] at hi'; cases hi'
            cases h
            (simp only [Op.equalIn, Sem.run_bind, run_underlying hu, Result.andThen_ok, sizeT_run hn]; simp [hn0, sameAddr, beq_addr])
          · cases h
    · cases hty
  · rename_i ms hu; cases hty
    cases h1 <;> simp only [deq, reduceCtorEq, false_and, if_false, if_true, true_and] at h <;> cases h2 <;> simp only [reduceCtorEq, false_and, if_false, Option.some.injEq] at h
    · split at h
      · cases h; (simp only [Op.equalIn, Sem.run_bind, run_underlying hu, Result.andThen_ok]; rfl)
      · cases h
    · subst h; (simp only [Op.equalIn, Sem.run_bind, run_underlying hu, Result.andThen_ok]; rfl)
    · subst h; (simp only [Op.equalIn, Sem.run_bind, run_underlying hu, Result.andThen_ok]; rfl)
  · rename_i e hu; cases hty
    cases h1 <;> simp only [deq, reduceCtorEq, false_and, if_false, if_true, true_and] at h <;> cases h2 <;> simp only [reduceCtorEq, false_and, if_false, Option.some.injEq] at h
    all_goals (subst h; (simp only [Op.equalIn, Sem.run_bind, run_underlying hu, Result.andThen_ok]; rfl))
  · rename_i k e hu; cases hty
    cases h1 <;> simp only [deq, reduceCtorEq, false_and, if_false, if_true, true_and] at h <;> cases h2 <;> simp only [reduceCtorEq, false_and, if_false, Option.some.injEq] at h
    all_goals (subst h; (simp only [Op.equalIn, Sem.run_bind, run_underlying hu, Result.andThen_ok]; rfl))
  · rename_i hu; cases hty
    cases h1 <;> simp only [deq, reduceCtorEq, false_and, if_false, if_true, true_and] at h <;> cases h2 <;> simp only [reduceCtorEq, false_and, if_false, Option.some.injEq] at h
    all_goals (subst h; (simp only [Op.equalIn, Sem.run_bind, run_underlying hu, Result.andThen_ok]; rfl))
  · cases hty

theorem run_deq {t : TypeId} {ty : EqTy} {lit b : Bool} {v1 v2 : DV} {u1 u2 : Value} (hty : cEqTy P t = some ty) (h : deq ty lit v1 v2 = some b) (h1 : VRel φ v1 u1) (h2 : VRel φ v2 u2) :
    (Op.equal t u1 u2).run P w = .ok b w := run_deqIn 9999 hty h h1 h2


theorem q_eq (hR : Rel P B0 φ H w) (hG : GRel P φ) (hT : TRel φ fr.tmps a.tmps) {y' z' : DOpd} (neg : Bool) (ty : EqTy) (t t' : TypeId) (y z : Operand) (ho : o.op = .binOp (if neg then .neq else .eql) t y z t')
    (hty : cEqTy P t = some ty) (hy : cOpd P y = some y') (hz : cOpd P z = some z')
    (hd : dop P fr.eval H (.eq neg ty (isConstOpd y || isConstOpd z) y' z') = some (x, H')) :
    QRes P φ w H x H' ((execOp a.eval o).run P w) := by
  have _ := hR
  have hyv := opd_rel hG hT hy
  have hzv := opd_rel hG hT hz
  simp only [dop, dop_eq, Option.map_eq_some_iff, Prod.mk.injEq] at hd
  obtain ⟨b, hb, rfl, rfl⟩ := hd
  have hrun := run_deq (P := P) (w := w) hty hb hyv hzv
  simp only [execOp, ho]
  have hg : (eqGuard (if neg then .neq else .eql) t y z (a.eval y) (a.eval z)).run P w = .ok () w := by
    generalize a.eval y = uy at *
    generalize a.eval z = uz at *
    generalize fr.eval y' = vy at *
    generalize fr.eval z' = vz at *
    have key : (uy = .nilIface ∧ uz = .nilIface → (isConstOpd y || isConstOpd z) = true) ∧ ¬ (∃ c d, uy = .agg c ∧ uz = .agg d) := by
      constructor
      · rintro ⟨rfl, rfl⟩
        cases hyv <;> simp only [deq, reduceCtorEq] at hb
        cases hzv <;> simp only [reduceCtorEq] at hb
        split at hb
        · rename_i h; exact h.2
        · cases hb
      · rintro ⟨c, d, rfl, rfl⟩
        cases hyv <;> simp only [deq, reduceCtorEq] at hb
    have hc : ((match y with | .const _ => true | _ => false) || (match z with | .const _ => true | _ => false)) = (isConstOpd y || isConstOpd z) := by
      cases y <;> cases z <;> rfl
    cases uy <;> cases uz <;> first
      | (cases neg <;> simp [eqGuard]; done)
      | (exfalso; exact key.2 ⟨_, _, rfl, rfl⟩)
      | (have hk := key.1 ⟨rfl, rfl⟩
         rw [← hc] at hk
         cases neg <;> cases y <;> cases z <;> simp at hk <;> simp [eqGuard])
  have hbin : ∀ (bb : Bool), (binOp (if neg then .neq else .eql) t (a.eval y) (a.eval z)).run P w = .ok (.bool (if neg then !b else b)) w := by
    intro _
    generalize a.eval y = uy at *
    generalize a.eval z = uz at *
    generalize fr.eval y' = vy at *
    generalize fr.eval z' = vz at *
    cases hyv <;> simp only [deq, reduceCtorEq] at hb <;> cases hzv <;> simp only [reduceCtorEq] at hb <;> cases neg <;> simp [binOp, hrun]
  exact q_ofRun (u := .bool (if neg then !b else b)) (by simp only [Sem.run_bind, hg, Result.andThen_ok, hbin true]) (.bool _)
end
end Go.Proofs.YtfmmgggdgpfaaaaGreatDoor.DS
