/- One operation of a region. -/
import Derived.Test.YtfmmgggdgpfaaaaGreatDoorDexec
namespace Go.Proofs.YtfmmgggdgpfaaaaGreatDoor.DS
open Go.RowKit (Below)
set_option linter.unusedVariables false
set_option linter.unusedSimpArgs false

theorem cOper_cases (P : Program) (nt : Nat) (ops : Array Oper) (o : Oper) :
    (∃ g op, cGuard ops o.guard = some g ∧ cOp P o = some op ∧ cOper P nt ops o = { dst := o.dst, guard := g, op } ∧ ∀ d, o.dst = some d → d < nt) ∨
    cOper P nt ops o = { dst := none, guard := none, op := .unsup } := by
  unfold cOper
  split
  · rename_i g op hg hop
    split
    · rename_i hd
      refine .inl ⟨g, op, hg, hop, rfl, fun d hdd => ?_⟩
      rw [hdd] at hd
      simpa using hd
    · exact .inr rfl
  · exact .inr rfl

theorem want_rel {φ : Phi} {fr : DFr} {a : Act} (hT : TRel φ fr.tmps a.tmps) {ops : Array Oper} {o : Oper} {g : Option (Nat × Bool)} (hg : cGuard ops o.guard = some g) {bb : Bool}
    (h : dwant fr g = some bb) : Region.wanted o (yielded ops a.tmps) = bb := by
  unfold cGuard at hg
  split at hg
  · rename_i hgo
    cases hg
    simp only [dwant, Option.some.injEq] at h
    subst h
    simp [Region.wanted, hgo]
  · rename_i j want hgo
    split at hg
    · rename_i t ht
      cases hg
      simp only [dwant] at h
      simp only [Region.wanted, hgo]
      have hrel := hT t
      cases hv : fr.tmps.get t with
      | none => rw [hv] at h; cases h
      | some v =>
        rw [hv] at h hrel
        simp only [Option.getD_some] at hrel
        have hyield : ∀ (r : Option Bool), (match (a.tmps.getD t undef) with | .bool c => some c | _ => none) = r → yielded ops a.tmps j = r := by
          intro r hr
          unfold yielded
          rw [ht]
          simp only [Option.bind_some]
          rw [Array.getD_eq_getD_getElem?] at hr
          cases hx : a.tmps[t]? with
          | none => rw [hx] at hr; simp [undef] at hr; simpa using hr
          | some x =>
            rw [hx] at hr
            simp only [Option.getD_some] at hr
            cases x <;> simpa using hr
        generalize a.tmps.getD t undef = u at *
        cases hrel <;> simp only [Option.some.injEq, reduceCtorEq] at h <;> (have hy := hyield _ rfl; first | (simp only [hy]; done) | (simp only [hy]; subst h; first | rfl | (rename_i c; cases c <;> cases want <;> rfl)) | (rw [hy]; subst h; first | rfl | (rename_i c; cases c <;> cases want <;> rfl)))
    · cases hg

section
variable {P : Program} {rec : Rec} {nt : Nat} {ops : Array Oper} {B0 : Nat} {φ : Phi} {H H' : DH} {w : World} {fr fr' : DFr} {b : Frame} {a : Act} {cs : List Frame} {k : List Item} {i : Nat} {rest : List Nat} {o : Oper}

theorem defer_only {op : DOp} {x : DNx} {c : Call} (hop : cOp P o = some op) (hc : o.op = .defer c) (hd : dop P fr.eval H op = some (x, H')) : ∃ y, x = .defer y := by
  obtain ⟨callee, args, ts⟩ := c
  cases callee with
  | value f =>
    simp only [cOp, hc, Option.pure_def, Option.bind_eq_bind, Option.bind_eq_some_iff, Option.some.injEq] at hop
    obtain ⟨f', hf, l, hl, rfl⟩ := hop
    simp only [dop, dop_defer] at hd
    split at hd
    · cases hd; exact ⟨_, rfl⟩
    · cases hd
  | _ => simp [cOp, hc] at hop

/-- Behind an operation. -/
def StepRes (P : Program) (B0 : Nat) (φ : Phi) (H : DH) (w : World) (nt : Nat) (b : Frame) (a : Act) (cs : List Frame) (m : Machine) (next : List Item) : DR → Prop
  | .go fr' H' => ∃ φ' a' cs' w', Ext B0 φ H w φ' H' w' ∧ Rel P B0 φ' H' w' ∧ FRel φ' nt fr' b a' cs' ∧ CsTo b.kind cs cs' ∧ Steps P m (lone (on b a' next) cs' w')
  | .pan v fr' H' => ∃ φ' cs' w' u todo, Ext B0 φ H w φ' H' w' ∧ Rel P B0 φ' H' w' ∧ FRel φ' nt fr' b a cs' ∧ CsTo b.kind cs cs' ∧ VRel φ' v u ∧
      Steps P m (lone { on b a todo with mode := .panicking [{ v := u, recovered := false }] } cs' w')

theorem tryRecover_normal {fr : Frame} (h : fr.kind = .normal) (cs : List Frame) : tryRecover fr cs = none := by
  unfold tryRecover; rw [h]

theorem step_ok (hrec : RecOK P rec) (hR : Rel P B0 φ H w) (hG : GRel P φ) (hF : FRel φ nt fr b a cs) (ho : ops[i]? = some o) {r : DR} (hd : dstep P rec (cOper P nt ops o) fr H = some r) :
    StepRes P B0 φ H w nt b a cs (lone (on b a (.inRegion ops (i :: rest) :: k)) cs w) (.inRegion ops rest :: k) r := by
  rcases cOper_cases P nt ops o with ⟨g, op, hg, hop, he, hlt⟩ | he
  · rw [he] at hd
    unfold dstep at hd
    split at hd
    · -- wanted
      rename_i hwant
      have hw := want_rel hF.tmps hg hwant
      split at hd
      · rename_i x H1 hdop
        have hO : ORes P B0 φ w H x H1 ((execOp a.eval o).run P w) := by
          rcases op_class hop with h | ⟨da, h1, h2⟩ | h
          · exact (h _ _ _ _ _ _ _ _ hR hG hF.tmps hdop).toORes hR
          · rw [h1] at hdop
            unfold dnew at hdop
            split at hdop
            · rename_i B mk hda
              cases hdop
              exact (h2 _ _ _ _ _ _ hG hF.tmps hda).toORes hR
            · cases hdop
          · exact h.2 _ _ _ _ _ _ _ _ hR hG hF.tmps hdop
        have hndef : (∀ y, x ≠ .defer y) → (b.roundOf = none ∨ ∀ c, o.op ≠ .defer c) := by
          intro hx
          refine .inr fun c hc => ?_
          obtain ⟨y, hy⟩ := defer_only hop hc hdop
          exact hx y hy
        have hraise : ∀ (u : Value), (on b a (.inRegion ops (i :: rest) :: k)).raise [{ v := u, recovered := false }] = { on b a (.inRegion ops (i :: rest) :: k) with mode := .panicking [{ v := u, recovered := false }] } := fun u => rfl
        have hfin : ∀ v, (on b a (.inRegion ops (i :: rest) :: k)).finish v = on b (a.put o.dst v) (.inRegion ops rest :: k) := by
          intro v; rw [on_finish, ho]; rfl
        cases x with
        | val v =>
          simp only [dapply, Option.some.injEq] at hd
          subst hd
          obtain ⟨φ', w', u, n, hr, hn, hE, hR', hv⟩ := hO
          exact ⟨φ', _, cs, w', hE, hR', (hF.mono hE.le).put hv hlt, CsTo.refl hF.ctx, .one (s_value ho hw (hndef (fun y => by simp)) hr hn)⟩
        | call f args =>
          obtain ⟨rfl, args', hl, hen⟩ := hO
          simp only [dapply] at hd
          split at hd
          · rename_i v recd H2 hcall
            cases hd
            obtain ⟨hT, hpr⟩ := hrec _ _ _ _ _ hcall
            obtain ⟨φ', w', frX, e', hE, hR', hend, hst, hfn, hlv⟩ := hT B0 φ args' w hR hG hl (on b a (.inRegion ops (i :: rest) :: k) :: cs)
            cases e' <;> simp only [EndRel] at hend
            refine ⟨φ', _, cs, w', hE, hR', (hF.mono hE.le).put hend hlt, CsTo.refl hF.ctx, .head (s_enter ho hw (hndef (fun y => by simp)) (hen hpr)) (hst.trans (.one ?_))⟩
            rw [← hfin]
            exact step_leave_returned hlv
          · rename_i v recd H2 hcall
            cases hd
            obtain ⟨hT, hpr⟩ := hrec _ _ _ _ _ hcall
            obtain ⟨φ', w', frX, e', hE, hR', hend, hst, hfn, hlv⟩ := hT B0 φ args' w hR hG hl (on b a (.inRegion ops (i :: rest) :: k) :: cs)
            cases e' <;> simp only [EndRel] at hend
            obtain ⟨u, rfl, hu⟩ := hend
            refine ⟨φ', cs, w', u, .inRegion ops (i :: rest) :: k, hE, hR', hF.mono hE.le, CsTo.refl hF.ctx, hu, .head (s_enter ho hw (hndef (fun y => by simp)) (hen hpr)) (hst.trans (.one ?_))⟩
            rw [← hraise]
            exact step_leave_panicked hlv
          · cases hd
        | round d args =>
          obtain ⟨rfl, ii, args', hi, hl, hr⟩ := hO
          simp only [dapply] at hd
          split at hd
          · rename_i v recd H2 hcall
            cases hd
            obtain ⟨hT, _⟩ := hrec _ _ _ _ _ hcall
            obtain ⟨l, f, tmps, as, bd, hy, hback⟩ := hT B0 φ args' w ii hR hG hl hi
            obtain ⟨φ', w', hE, hR', u, hu, hst⟩ := hback (on b a (.inRegion ops (i :: rest) :: k)) cs
            refine ⟨φ', _, cs, w', hE, hR', (hF.mono hE.le).put hu hlt, CsTo.refl hF.ctx, .head (s_round ho hw (hndef (fun y => by simp)) (hr.trans hy)) ?_⟩
            rw [← hfin]
            exact hst
          · rename_i v recd H2 hcall
            cases hd
            obtain ⟨hT, _⟩ := hrec _ _ _ _ _ hcall
            obtain ⟨l, f, tmps, as, bd, hy, hback⟩ := hT B0 φ args' w ii hR hG hl hi
            obtain ⟨φ', w', hE, hR', u, hu, hst⟩ := hback (on b a (.inRegion ops (i :: rest) :: k)) cs
            refine ⟨φ', cs, w', u, .inRegion ops (i :: rest) :: k, hE, hR', hF.mono hE.le, CsTo.refl hF.ctx, hu, .head (s_round ho hw (hndef (fun y => by simp)) (hr.trans hy)) ?_⟩
            rw [← hraise]
            exact hst
          · cases hd
        | recover =>
          obtain ⟨rfl, hr⟩ := hO
          simp only [dapply] at hd
          split at hd
          · cases hd
          · rename_i hround
            have hro : b.roundOf = none := by
              have := hF.rnd
              cases h : b.roundOf with
              | none => rfl
              | some l => rw [h] at this; simp at this; exact absurd this hround
            split at hd
            · rename_i v hrcv
              cases hd
              rcases hF.ctx with ⟨_, h2, _⟩ | ⟨hk, c, rs, rfl, hm⟩
              · rw [h2] at hrcv; cases hrcv
              · rcases hm with ⟨v', u, h1, h2, h3, h4⟩ | ⟨u, h1, _⟩ | ⟨h1, _⟩
                · rw [h1] at hrcv; cases hrcv
                  have ht : ∀ fx : Frame, fx.kind = b.kind → tryRecover fx (c :: rs) = some (u, { c with mode := .panicking [{ v := u, recovered := true }] } :: rs) := by
                    intro fx hfx
                    rw [tryRecover_deferred (hfx.trans hk)]
                    simp [recoverD, h3]
                  refine ⟨φ, _, { c with mode := .panicking [{ v := u, recovered := true }] } :: rs, w, .refl _ _ _ _, hR, ?_, .inr ⟨hk, c, rs, _, rfl, rfl, .inr ⟨_, rfl⟩⟩, .one (s_recover_some ho hw hro hr ht)⟩
                  have hF' : FRel φ nt { fr with rcv := none, recd := true } b a ({ c with mode := .panicking [{ v := u, recovered := true }] } :: rs) :=
                    ⟨hF.tmps, hF.size, hF.defs, hF.rnd, .inr ⟨hk, _, rs, rfl, .inr (.inl ⟨u, rfl, rfl, rfl⟩)⟩⟩
                  exact hF'.put h4 hlt
                · rw [h1] at hrcv; cases hrcv
                · rw [h1] at hrcv; cases hrcv
            · rename_i hrcv
              cases hd
              have ht : ∀ fx : Frame, fx.kind = b.kind → tryRecover fx cs = none := by
                intro fx hfx
                rcases hF.ctx with ⟨hk, _, _⟩ | ⟨hk, c, rs, rfl, hm⟩
                · exact tryRecover_normal (hfx.trans hk) cs
                · rw [tryRecover_deferred (hfx.trans hk)]
                  rcases hm with ⟨v', u, h1, _⟩ | ⟨u, _, _, h3⟩ | ⟨_, _, h3⟩
                  · rw [h1] at hrcv; cases hrcv
                  · simp [recoverD, h3]
                  · simp [recoverD, h3]
              exact ⟨φ, _, cs, w, .refl _ _ _ _, hR, hF.put .nilIface hlt, CsTo.refl hF.ctx, .one (s_recover_none ho hw hro hr ht)⟩
        | defer y =>
          obtain ⟨rfl, f, args, first, cap, rfl, hl, hr⟩ := hO
          simp only [dapply] at hd
          split at hd
          · cases hd
          · rename_i hround
            have hro : b.roundOf = none := by
              have := hF.rnd
              cases h : b.roundOf with
              | none => rfl
              | some l => rw [h] at this; simp at this; exact absurd this hround
            cases hd
            refine ⟨φ, _, cs, w, .refl _ _ _ _, hR, ?_, CsTo.refl hF.ctx, .one (s_defer ho hw hro hr)⟩
            have hF' : FRel φ nt { fr with defers := .call f args :: fr.defers } b { a with defers := { target := .fn (.func f) cap, args := first } :: a.defers } cs :=
              ⟨hF.tmps, hF.size, ⟨⟨first, cap, rfl, hl⟩, hF.defs⟩, hF.rnd, hF.ctx⟩
            exact hF'.put (.of_tuple (LRel.nil _)) hlt
        | panic v =>
          obtain ⟨rfl, u, hr, hv⟩ := hO
          simp only [dapply, Option.some.injEq] at hd
          subst hd
          exact ⟨φ, cs, w, u, .inRegion ops (i :: rest) :: k, .refl _ _ _ _, hR, hF, CsTo.refl hF.ctx, hv, .one (s_panic ho hw (hndef (fun y => by simp)) hr)⟩
      · cases hd
    · -- not wanted
      rename_i hwant
      have hw := want_rel hF.tmps hg hwant
      cases hd
      have hst := s_op_skip (P := P) (b := b) (a := a) (k := k) (cs := cs) (w := w) (ops := ops) (i := i) (rest := rest) (by simp [ho, hw])
      rw [ho] at hst
      exact ⟨φ, _, cs, w, .refl _ _ _ _, hR, hF.put (.of_tuple (LRel.nil _)) hlt, CsTo.refl hF.ctx, .one hst⟩
    · cases hd
  · rw [he] at hd
    simp [dstep, dwant, dop] at hd
end
end Go.Proofs.YtfmmgggdgpfaaaaGreatDoor.DS
