/- Calls; every operation at once. -/
import Derived.Test.YtfmmgggdgpfaaaaGreatDoorDop10
namespace Go.Proofs.YtfmmgggdgpfaaaaGreatDoor.DS
open Go.RowKit (Below)
set_option linter.unusedVariables false
set_option linter.unusedSimpArgs false

/-- What an operation of the twin's says of the model's. -/
def ORes (P : Program) (B0 : Nat) (φ : Phi) (w : World) (H : DH) (x : DNx) (H' : DH) (r : Result Next) : Prop :=
  match x with
  | .val v => VRes P B0 φ w H v H' r
  | .call f args => H' = H ∧ ∃ args' : Array Value, LRel φ args args'.toList ∧ ((dprog P f).isSome = true → r = .ok (.enter f args') w)
  | .round d args => H' = H ∧ ∃ i, ∃ args' : Array Value, φ d = some i ∧ LRel φ args args'.toList ∧ r = (Instr.yield i.b args').run P w
  | .recover => H' = H ∧ r = .ok .recover w
  | .defer y => H' = H ∧ ∃ f args, ∃ first cap : Array Value, y = .call f args ∧ LRel φ args (first ++ cap).toList ∧ r = .ok (.defer { target := .fn (.func f) cap, args := first }) w
  | .panic v => H' = H ∧ ∃ u, r = .halt (.panic u) w ∧ VRel φ v u

theorem QRes.toORes {P : Program} {B0 : Nat} {φ : Phi} {w : World} {H H' : DH} {x : DNx} {r : Result Next} (hR : Rel P B0 φ H w) (h : QRes P φ w H x H' r) : ORes P B0 φ w H x H' r := by
  obtain ⟨v, rfl, rfl, u, hr, hv⟩ := h
  exact ⟨φ, w, u, .value u, hr, .inl rfl, .refl _ _ _ _, hR, hv⟩

theorem NewOK.toORes {P : Program} {B0 : Nat} {φ : Phi} {w : World} {H : DH} {r : Result Next} {B : DBlk} {mk : Nat → DV} (hR : Rel P B0 φ H w) (h : NewOK P φ w r B mk) :
    ORes P B0 φ w H (.val (mk H.next)) (H.new B) r := by
  obtain ⟨hown, obj, n, u, w', hr, h1, h2, h3, h4, h5⟩ := h
  have hle : φ.le (φ.with H.next ⟨w.heap.size, 0, n⟩) := Phi.le_with _ (hR.none_of_ge (Nat.le_refl _))
  obtain ⟨ho, hv⟩ := h5 _ H.next hle (Phi.with_self _ _ _)
  obtain ⟨hR', hE'⟩ := hR.alloc B obj n ho
  have e : w'.heap = (w.alloc obj).heap := h1
  refine ⟨_, w', u, .value u, hr, .inl rfl, ⟨hE'.le, hE'.nxt, hE'.unm, ⟨h2, h3, h4, ?_, ?_⟩⟩, hR'.congr e, hv⟩
  · rw [h1]; simp
  · intro k hk
    rw [e]
    exact hE'.below.block k hk

theorem findNext_noEscape (fn : Func) (h1 : fn.name = "internal/abi.NoEscape") (h2 : fn.origin = "") : Extern.findNext fn = none := by
  unfold Extern.findNext
  rw [h1, h2]
  rfl
theorem find_noEscape (fn : Func) (h1 : fn.name = "internal/abi.NoEscape") : Extern.find fn = some Extern.AbiNoEscape.same := by
  unfold Extern.find
  rw [h1]
  rfl
theorem findNext_indexByte (fn : Func) (h1 : fn.name = "internal/bytealg.IndexByteString") (h2 : fn.origin = "") : Extern.findNext fn = none := by
  unfold Extern.findNext
  rw [h1, h2]
  rfl
theorem find_indexByte (fn : Func) (h1 : fn.name = "internal/bytealg.IndexByteString") : Extern.find fn = some Extern.BytealgIndexByte.indexByte := by
  unfold Extern.find
  rw [h1]
  rfl

section
variable {P : Program} {B0 : Nat} {φ : Phi} {H H' : DH} {w : World} {fr : DFr} {a : Act} {o : Oper} {op : DOp} {x : DNx}

theorem callFunc_enter {f : FuncId} (h : (dprog P f).isSome = true) (args : Array Value) (w : World) : (callFunc f args).run P w = .ok (.enter f args) w := by
  unfold dprog at h
  cases hf : P.funcs[f]? with
  | none => simp [hf] at h
  | some fn =>
    simp only [hf, Option.bind_some] at h
    unfold cFunc at h
    split at h
    · simp at h
    · rename_i hn
      split at h
      · rename_i c hb
        have hn' : fn.name ≠ "runtime.NumGoroutine" := by simpa using hn
        simp [callFunc, hf, hn', hb]
      · simp at h


theorem e_call (hR : Rel P B0 φ H w) (hG : GRel P φ) (hT : TRel φ fr.tmps a.tmps) (f : Operand) (args : Array Operand) (ts : Array TypeId) {f' : DOpd} {l : List DOpd} (ho : o.op = .call { callee := .value f, args, argTypes := ts }) (hf : cOpd P f = some f') (hl : cOpds P args = some l)
    (hd : dop P fr.eval H (.call f' l) = some (x, H')) : ORes P B0 φ w H x H' ((execOp a.eval o).run P w) := by
  have _ := hR
  have hp := opd_rel hG hT hf
  have hq := opds_rel hG hT hl
  simp only [dop, dop_call] at hd
  simp only [execOp, ho, resolve]
  generalize fr.eval f' = vf at *
  generalize a.eval f = uf at *
  split at hd
  · rename_i g first cap
    cases hd
    obtain ⟨first', cap', rfl, h1, h2⟩ := hp.func_iff
    refine ⟨rfl, first' ++ args.map a.eval ++ cap', ?_, fun hs => ?_⟩
    · rw [Array.toList_append, Array.toList_append]
      exact (h1.append hq).append h2
    · simp [Deferred.ofValue, invoke, callFunc_enter hs]
  · rename_i d
    cases hd
    cases hp
    rename_i i hi
    refine ⟨rfl, i, args.map a.eval, hi, hq, ?_⟩
    simp [Deferred.ofValue, invoke]
  · cases hd

theorem e_defer (hR : Rel P B0 φ H w) (hG : GRel P φ) (hT : TRel φ fr.tmps a.tmps) (f : Operand) (args : Array Operand) (ts : Array TypeId) {f' : DOpd} {l : List DOpd} (ho : o.op = .defer { callee := .value f, args, argTypes := ts }) (hf : cOpd P f = some f') (hl : cOpds P args = some l)
    (hd : dop P fr.eval H (.defer f' l) = some (x, H')) : ORes P B0 φ w H x H' ((execOp a.eval o).run P w) := by
  have _ := hR
  have hp := opd_rel hG hT hf
  have hq := opds_rel hG hT hl
  simp only [dop, dop_defer] at hd
  simp only [execOp, ho, resolve]
  generalize fr.eval f' = vf at *
  generalize a.eval f = uf at *
  split at hd
  · rename_i g first cap
    cases hd
    obtain ⟨first', cap', rfl, h1, h2⟩ := hp.func_iff
    refine ⟨rfl, g, _, first' ++ args.map a.eval, cap', rfl, ?_, ?_⟩
    · rw [Array.toList_append, Array.toList_append]
      exact (h1.append hq).append h2
    · simp [Deferred.ofValue]
  · cases hd

theorem e_panic (hR : Rel P B0 φ H w) (hG : GRel P φ) (hT : TRel φ fr.tmps a.tmps) (y : Operand) {y' : DOpd} (ho : o.op = .panic y) (hy : cOpd P y = some y') (hd : dop P fr.eval H (.panic y') = some (x, H')) : ORes P B0 φ w H x H' ((execOp a.eval o).run P w) := by
  have _ := hR
  have hp := opd_rel hG hT hy
  simp only [dop, dop_panic] at hd
  simp only [execOp, ho]
  generalize fr.eval y' = vf at *
  generalize a.eval y = uf at *
  split at hd
  · cases hd
    rename_i t v
    have hp' := hp
    cases hp
    refine ⟨rfl, _, ?_, hp'⟩
    simp [Instr.panic, goPanic]
  · cases hd

theorem e_recover (hR : Rel P B0 φ H w) (hG : GRel P φ) (hT : TRel φ fr.tmps a.tmps) (ts : Array TypeId) (ho : o.op = .call { callee := .builtin .recover, args := #[], argTypes := ts }) (hd : dop P fr.eval H .recover = some (x, H')) :
    ORes P B0 φ w H x H' ((execOp a.eval o).run P w) := by
  have _ := hR
  have _ := hG
  have _ := hT
  simp only [dop, dop_recover, Option.some.injEq, Prod.mk.injEq] at hd
  obtain ⟨rfl, rfl⟩ := hd
  exact ⟨rfl, by simp [execOp, ho, resolve, invoke, builtin]⟩

end
end Go.Proofs.YtfmmgggdgpfaaaaGreatDoor.DS
