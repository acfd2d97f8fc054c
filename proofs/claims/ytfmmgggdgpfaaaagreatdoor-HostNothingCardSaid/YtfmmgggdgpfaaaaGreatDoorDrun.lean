/- Functions and rounds. -/
import Derived.Test.YtfmmgggdgpfaaaaGreatDoorDcode
namespace Go.Proofs.YtfmmgggdgpfaaaaGreatDoor.DS
open Go.RowKit (Below)
set_option linter.unusedVariables false
set_option linter.unusedSimpArgs false

theorem dprog_spec {P : Program} {f : FuncId} {fn' : DFunc} (h : dprog P f = some fn') : ∃ fn c, P.funcs[f]? = some fn ∧ fn.body = some c ∧ fn'.ntmps = fn.ntmps ∧ fn'.body = cCode P fn.ntmps c ∧ fn.results.toList.mapM (cRes P fn.ntmps) = some fn'.results := by
  unfold dprog at h
  obtain ⟨fn, hf, h⟩ := Option.bind_eq_some_iff.1 h
  unfold cFunc at h
  split at h
  · cases h
  · split at h
    · rename_i c hb
      obtain ⟨rs, hrs, rfl⟩ := Option.map_eq_some_iff.1 h
      exact ⟨fn, c, hf, hb, rfl, rfl, hrs⟩
    · cases h

def resM (tmps : Array Value) : ResultVar → Sem Value
  | .tmp t => pure (tmps.getD t undef)
  | .cell a t => do loadVar t (← asAddr (tmps.getD a undef))

section
variable {P : Program} {rec : Rec} {nt : Nat} {B0 : Nat} {φ : Phi} {H : DH} {w : World} {cs : List Frame} {b : Frame} {k k1 : List Item} {fr : DFr} {a : Act} {m : Machine}

theorem res_list (hR : Rel P B0 φ H w) {tmps : Array Value} (hT : TRel φ fr.tmps tmps) : ∀ (l : List ResultVar) (rs : List DRes) (vs : List DV), l.mapM (cRes P nt) = some rs → dresults fr H rs = some vs →
    ∃ us : List Value, (l.mapM (resM tmps)).run P w = .ok us w ∧ LRel φ vs us
  | [], rs, vs, h1, h2 => by
    simp only [List.mapM_nil, Option.pure_def, Option.some.injEq] at h1
    subst h1
    simp only [dresults, Option.some.injEq] at h2
    subst h2
    exact ⟨[], by simp, LRel.nil _⟩
  | r :: l, rs, vs, h1, h2 => by
    rw [List.mapM_cons] at h1
    simp only [Option.bind_eq_bind, Option.pure_def, Option.bind_eq_some_iff, Option.some.injEq] at h1
    obtain ⟨r', hr, rs', hrs, rfl⟩ := h1
    cases r with
    | tmp t =>
      simp only [cRes] at hr
      split at hr
      · cases hr
        simp only [dresults, Option.map_eq_some_iff] at h2
        obtain ⟨vs', hvs, rfl⟩ := h2
        obtain ⟨us, hu, hl⟩ := res_list hR hT l rs' vs' hrs hvs
        exact ⟨_ :: us, by simp [List.mapM_cons, resM, hu], LRel.cons (hT t) hl⟩
      · cases hr
    | cell t ty =>
      simp only [cRes] at hr
      split at hr
      · simp only [Option.bind_eq_bind, Option.pure_def, Option.bind_eq_some_iff, Option.some.injEq] at hr
        obtain ⟨agg, hagg, n, hn, rfl⟩ := hr
        simp only [dresults] at h2
        split at h2
        · rename_i v vs' hv hvs
          cases h2
          obtain ⟨us, hu, hl⟩ := res_list hR hT l rs' vs' hrs hvs
          have hrel := hT t
          generalize (fr.tmps.get t).getD .bad = vy at hv hrel
          have hx : ∃ u, (resM tmps (.cell t ty)).run P w = .ok u w ∧ VRel φ v u := by
            have e0 : resM tmps (.cell t ty) = (do loadVar ty (← asAddr (tmps.getD t undef))) := rfl
            rw [e0]
            generalize tmps.getD t undef = uy at hrel ⊢
            cases hrel <;> simp only [dload, reduceCtorEq] at hv
            rename_i d off i hi
            obtain ⟨u, h3, h4⟩ := run_loadVar_rel hR hagg hn hi hv
            exact ⟨u, by simp [asAddr, h3], h4⟩
          obtain ⟨u, h3, h4⟩ := hx
          exact ⟨u :: us, by simp [List.mapM_cons, h3, hu], LRel.cons h4 hl⟩
        · cases h2
      · cases hr

theorem results_ok (hR : Rel P B0 φ H w) {tmps : Array Value} (hT : TRel φ fr.tmps tmps) {fn : Func} {rs : List DRes} {vs : List DV} (h1 : fn.results.toList.mapM (cRes P nt) = some rs) (h2 : dresults fr H rs = some vs) :
    ∃ u, (results fn tmps).run P w = .ok u w ∧ VRel φ (tupled vs) u := by
  obtain ⟨us, hu, hl⟩ := res_list hR hT _ _ _ h1 h2
  have hm : (fn.results.mapM (resM tmps)).run P w = .ok us.toArray w := by
    rw [Array.mapM_eq_mapM_toList]
    simp [hu]
  have hres : (results fn tmps).run P w = .ok (if h : us.toArray.size = 1 then us.toArray[0] else .tuple us.toArray) w := by
    have : results fn tmps = (do let vs ← fn.results.mapM (resM tmps); pure (if h : vs.size = 1 then vs[0] else .tuple vs)) := by
      unfold results
      congr 1
    rw [this]
    simp [hm]
  refine ⟨_, hres, ?_⟩
  cases vs with
  | nil =>
    obtain rfl := hl.nil_left
    exact .of_tuple (by simpa using hl)
  | cons v vs =>
    obtain ⟨u, us', rfl, h3, h4⟩ := hl.cons_left
    cases vs with
    | nil =>
      obtain rfl := h4.nil_left
      exact h3
    | cons v2 vs =>
      obtain ⟨u2, us2, rfl, h5, h6⟩ := h4.cons_left
      simp only [tupled]
      rw [dif_neg (by simp)]
      exact .of_tuple (by simpa using hl)

def ModeU (φ : Phi) : Option DV → FrameMode → Prop
  | none, m => m = .returning
  | some v, m => ∃ u, m = .panicking [{ v := u, recovered := false }] ∧ VRel φ v u

theorem ModeU.mono {φ ψ : Phi} (hle : φ.le ψ) {u : Option DV} {m : FrameMode} (h : ModeU φ u m) : ModeU ψ u m := by
  cases u with
  | none => exact h
  | some v => obtain ⟨x, h1, h2⟩ := h; exact ⟨x, h1, h2.mono hle⟩
theorem ModeU.ne_run {φ : Phi} {u : Option DV} {m : FrameMode} (h : ModeU φ u m) : m ≠ .run := by
  cases u with
  | none => rw [show m = .returning from h]; simp
  | some v => obtain ⟨x, rfl, _⟩ := h; simp
theorem ModeU.settle {φ : Phi} {u : Option DV} {m : FrameMode} (h : ModeU φ u m) : Go.settle m = m := by
  cases u with
  | none => rw [show m = .returning from h]; rfl
  | some v => obtain ⟨x, rfl, _⟩ := h; rfl
theorem ModeU.rel {φ : Phi} {u : Option DV} {m : FrameMode} (h : ModeU φ u m) : ModeRel φ u false m := by
  cases u with
  | none => exact .inr (.inr ⟨rfl, rfl, h⟩)
  | some v => obtain ⟨x, h1, h2⟩ := h; exact .inl ⟨v, x, rfl, rfl, h1, h2⟩

def Left (P : Program) (fn : Func) (F : Frame) (w : World) : Ending → Prop
  | .returned v => F.mode = .returning ∧ (results fn F.tmps).run P w = .ok v w
  | .panicked chain => F.mode = .panicking chain
  | .outgrown => True

theorem leave_ok (hrec : RecOK P rec) {fn : Func} {rs : List DRes} (hres : fn.results.toList.mapM (cRes P nt) = some rs) : ∀ (ds : List DDef) (u : Option DV) (H : DH) (e : DEnd) (H' : DH) (φ : Phi) (w : World) (F : Frame),
    dleave rec fr rs ds u H = some (e, H') → Rel P B0 φ H w → GRel P φ → TRel φ fr.tmps F.tmps → DefsRel φ ds F.defers → ModeU φ u F.mode →
    ∃ φ' w' e' F', Ext B0 φ H w φ' H' w' ∧ Rel P B0 φ' H' w' ∧ EndRel φ' e e' ∧ Steps P (lone F cs w) (lone F' cs w') ∧ F'.fn = F.fn ∧ F'.kind = F.kind ∧ F'.defers = [] ∧ Left P fn F' w' e' := by
  intro ds
  induction ds with
  | nil =>
    intro u H e H' φ w F hd hR hG hT hD hM
    have hdf : F.defers = [] := by
      cases h : F.defers with
      | nil => rfl
      | cons _ _ => rw [h] at hD; exact hD.elim
    cases u with
    | none =>
      simp only [dleave, Option.map_eq_some_iff, Prod.mk.injEq] at hd
      obtain ⟨vs, hvs, rfl, rfl⟩ := hd
      obtain ⟨x, h1, h2⟩ := results_ok hR hT hres hvs
      exact ⟨φ, w, .returned x, F, .refl _ _ _ _, hR, h2, .refl _ _, rfl, rfl, hdf, hM, h1⟩
    | some v =>
      simp only [dleave, Option.some.injEq, Prod.mk.injEq] at hd
      obtain ⟨rfl, rfl⟩ := hd
      obtain ⟨x, h1, h2⟩ := hM
      exact ⟨φ, w, .panicked _, F, .refl _ _ _ _, hR, ⟨x, rfl, h2⟩, .refl _ _, rfl, rfl, hdf, h1⟩
  | cons d ds ih =>
    intro u H e H' φ w F hd hR hG hT hD hM
    cases hdf : F.defers with
    | nil => rw [hdf] at hD; exact hD.elim
    | cons d' ds' =>
      rw [hdf] at hD
      obtain ⟨hd1, hD⟩ := hD
      cases d with
      | collected n =>
        simp only [dleave] at hd
        split at hd
        · rename_i hg
          obtain ⟨i, hi, rfl⟩ := hd1
          obtain ⟨o, ho, hO⟩ := hR.blk n i _ hi hg
          have ho' : w.heap[i.b]? = some (.deferred (some [])) := by rw [ho, show o = _ from hO]; rfl
          have hst := step_collected (cs := cs) hM.ne_run hdf rfl (run_takeDeferred (P := P) ho')
          obtain ⟨hR', hE'⟩ := setLoop_rel hR hi hg rfl (.defs true) (.deferred none) rfl
          obtain ⟨φ', w', e', F', g1, g2, g3, g4, g5, g6, g7, g8⟩ := ih u _ e H' φ _ { F with defers := [] ++ ds' } hd hR' hG hT hD hM
          exact ⟨φ', w', e', F', hE'.trans g1, g2, g3, .head hst g4, g5, g6, g7, g8⟩
        · cases hd
      | call f args =>
        simp only [dleave] at hd
        split at hd
        · rename_i v recd H2 hcall
          obtain ⟨hTg, hpr⟩ := hrec _ _ _ _ _ hcall
          obtain ⟨first, cap, rfl, hl⟩ := hd1
          have hst := step_defer (P := P) (cs := cs) (w := w) hM.ne_run hdf rfl (f := f) (args := first ++ cap) (by simp [invoke, callFunc_enter hpr])
          obtain ⟨φ', w', frX, e', m', hE, hR', hend, hst2, hk, hgo, rcv, hmr, hmm⟩ := hTg B0 φ _ w hR hG hl { F with defers := ds' } cs hM.rel
          cases e' <;> simp only [EndRel] at hend
          have hst3 := step_going_returned (c := { ({ F with defers := ds' } : Frame) with mode := m' }) (cs := cs) hk hgo
          have hM' : ModeU φ' (if recd = true then none else u) (settle m') := by
            cases recd with
            | true =>
              rcases hmr with ⟨_, _, _, h2, _⟩ | ⟨x, _, _, h3⟩ | ⟨_, h2, _⟩
              · cases h2
              · rw [h3]; rfl
              · cases h2
            | false =>
              have : m' = F.mode := hmm rfl
              rw [this, hM.settle]
              exact hM.mono hE.le
          obtain ⟨φ2, w2, e2, F2, g1, g2, g3, g4, g5, g6, g7, g8⟩ := ih _ _ e H' φ' w' { ({ ({ F with defers := ds' } : Frame) with mode := m' } : Frame) with mode := settle m' } hd hR' (hG.mono hE.le) (hT.mono hE.le) (hD.mono hE.le) hM'
          exact ⟨φ2, w2, e2, F2, hE.trans g1, g2, g3, .head hst (hst2.trans (.head hst3 g4)), g5, g6, g7, g8⟩
        · cases hd
end
end Go.Proofs.YtfmmgggdgpfaaaaGreatDoor.DS
