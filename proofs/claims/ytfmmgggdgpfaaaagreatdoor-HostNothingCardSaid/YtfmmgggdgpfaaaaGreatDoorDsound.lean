/- What the twin runs, the machine runs. -/
import Derived.Test.YtfmmgggdgpfaaaaGreatDoorDrun
namespace Go.Proofs.YtfmmgggdgpfaaaaGreatDoor.DS
open Go.RowKit (Below)
set_option linter.unusedVariables false
set_option linter.unusedSimpArgs false

theorem get_ofArgs : ∀ (vs : List DV) (i : Nat) (t : Tr DV) (s : Nat), (ofArgs i vs t).get s = if i ≤ s ∧ s < i + vs.length then vs[s - i]? else t.get s
  | [], i, t, s => by
    simp only [ofArgs, List.length_nil, Nat.add_zero]
    rw [if_neg (by omega)]
  | v :: vs, i, t, s => by
    simp only [ofArgs, List.length_cons]
    rw [get_ofArgs vs (i + 1)]
    by_cases h1 : i + 1 ≤ s ∧ s < i + 1 + vs.length
    · rw [if_pos h1, if_pos (by omega)]
      have : s - i = (s - (i + 1)) + 1 := by omega
      rw [this, List.getElem?_cons_succ]
    · rw [if_neg h1, Tr.get_put]
      by_cases h2 : s = i
      · subst h2; simp
      · rw [if_neg h2, if_neg (by omega)]

section
variable {P : Program} {rec : Rec} {nt : Nat} {B0 : Nat} {φ : Phi} {H : DH} {w : World} {cs : List Frame} {b : Frame} {k k1 : List Item} {fr : DFr} {a : Act} {m : Machine}

theorem args_rel {args : List DV} {args' : Array Value} (hl : LRel φ args args'.toList) (n : Nat) : TRel φ (ofArgs 0 args .nil) (args' ++ Array.replicate n undef) := by
  intro s
  rw [get_ofArgs]
  have hlen : args.length = args'.size := by have := hl.1; simpa using this
  by_cases h : 0 ≤ s ∧ s < 0 + args.length
  · rw [if_pos h]
    have hs : s < args.length := by omega
    have hs' : s < args'.size := by omega
    simp only [Nat.sub_zero, List.getElem?_eq_getElem hs, Option.getD_some]
    have : (args' ++ Array.replicate n undef).getD s undef = args'[s] := by
      rw [Array.getD_eq_getD_getElem?, Array.getElem?_append_left hs']
      simp [hs']
    rw [this]
    exact hl.2 s _ _ (List.getElem?_eq_getElem hs) (by simp [hs'])
  · rw [if_neg h]
    exact .bad _

theorem params_rel : ∀ (ps : List Nat) (vs : List DV) (us : List Value) (t t' : Tr DV) (tmps : Array Value), setParams ps vs t = some t' → LRel φ vs us → TRel φ t tmps → (∀ p ∈ ps, p < tmps.size) →
    TRel φ t' ((ps.zip us).foldl (fun (tmps : Array Value) (p : Nat × Value) => tmps.setIfInBounds p.1 p.2) tmps) ∧ ps.length = us.length
  | [], [], us, t, t', tmps, h, hl, hT, _ => by
    simp only [setParams, Option.some.injEq] at h
    subst h
    obtain rfl := hl.nil_left
    exact ⟨hT, rfl⟩
  | p :: ps, v :: vs, us, t, t', tmps, h, hl, hT, hp => by
    obtain ⟨u, us', rfl, h1, h2⟩ := hl.cons_left
    simp only [setParams] at h
    obtain ⟨g1, g2⟩ := params_rel ps vs us' (t.put p v) t' (tmps.setIfInBounds p u) h h2 (hT.put h1 (hp p (by simp))) (fun q hq => by simp; exact hp q (List.mem_cons_of_mem _ hq))
    exact ⟨by simpa using g1, by simp [g2]⟩
  | [], _ :: _, _, _, _, _, h, _, _, _ => by simp [setParams] at h
  | _ :: _, [], _, _, _, _, h, _, _, _ => by simp [setParams] at h

theorem s_end (hro : b.roundOf = none) : step P (lone (on b a []) cs w) = .next (lone { on b a [] with mode := .returning } cs w) := step_lone_go (by simp [stepG, stepG.exec, on, hro])
theorem s_ret (hro : b.roundOf = none) : step P (lone (on b a (.code .ret :: k)) cs w) = .next (lone { on b a (.code .ret :: k) with mode := .returning } cs w) := step_lone_go (by simp [stepG, stepG.exec, on, hro])

/-- A function, entered. -/
theorem fn_ok (hm : P.follows .mixedOrders = true) (hrec : RecOK P rec) (n : Nat) {f : FuncId} {fn' : DFunc} (hf : dprog P f = some fn') {args : List DV} (hlen : args.length ≤ fn'.ntmps) {rcv : Option DV} {kind : CallKind}
    {e : DEnd} {recd : Bool} {H' : DH} {args' : Array Value} (hR : Rel P B0 φ H w) (hG : GRel P φ) (hl : LRel φ args args'.toList) (hctx : CtxRel φ kind rcv false cs)
    (hrun : (match dexec P rec n f fn'.body { tmps := ofArgs 0 args .nil, defers := [], rcv := rcv, recd := false, round := false } H with
        | some (.normal, fr', H') | some (.ret, fr', H') => (dleave rec fr' fn'.results fr'.defers none H').map fun (e, H'') => (e, fr'.recd, H'')
        | some (.panic v, fr', H') => (dleave rec fr' fn'.results fr'.defers (some v) H').map fun (e, H'') => (e, fr'.recd, H'')
        | _ => none) = some (e, recd, H')) :
    ∃ φ' w' F' e' cs' rcv', Ext B0 φ H w φ' H' w' ∧ Rel P B0 φ' H' w' ∧ EndRel φ' e e' ∧ Steps P (lone (Frame.enter P f args' kind) cs w) (lone F' cs' w') ∧ F'.fn = f ∧ F'.kind = kind ∧ F'.defers = [] ∧
      (∃ fn, P.funcs[f]? = some fn ∧ Left P fn F' w' e') ∧ CsTo kind cs cs' ∧ CtxRel φ' kind rcv' recd cs' := by
  obtain ⟨fn, c, hfn, hbody, hnt, hcode, hres⟩ := dprog_spec hf
  let b : Frame := { (default : Frame) with fn := f, kind := kind }
  have hro : b.roundOf = none := rfl
  have hsz : args.length = args'.size := by have := hl.1; simpa using this
  have henter : Frame.enter P f args' kind = on b { tmps := args' ++ Array.replicate (fn.ntmps - args'.size) undef, defers := [] } [.code c] := by
    simp [Frame.enter, on, hfn, hbody, b]
    rfl
  rw [henter]
  have hF : FRel φ fn.ntmps { tmps := ofArgs 0 args .nil, defers := [], rcv := rcv, recd := false, round := false } b { tmps := args' ++ Array.replicate (fn.ntmps - args'.size) undef, defers := [] } cs :=
    ⟨args_rel hl _, by simp; omega, trivial, rfl, hctx⟩
  -- the end, from whatever mode
  have fin : ∀ (fr' : DFr) (H1 : DH) (u : Option DV) (φ1 : Phi) (a1 : Act) (cs1 : List Frame) (w1 : World) (todo : List Item) (md : FrameMode), (dleave rec fr' fn'.results fr'.defers u H1).map (fun (x : DEnd × DH) => (x.1, fr'.recd, x.2)) = some (e, recd, H') →
      Ext B0 φ H w φ1 H1 w1 → Rel P B0 φ1 H1 w1 → FRel φ1 fn.ntmps fr' b a1 cs1 → CsTo b.kind cs cs1 → ModeU φ1 u md →
      Steps P (lone (on b { tmps := args' ++ Array.replicate (fn.ntmps - args'.size) undef, defers := [] } [.code c]) cs w) (lone { on b a1 todo with mode := md } cs1 w1) →
      ∃ φ' w' F' e' cs' rcv', Ext B0 φ H w φ' H' w' ∧ Rel P B0 φ' H' w' ∧ EndRel φ' e e' ∧ Steps P (lone (on b { tmps := args' ++ Array.replicate (fn.ntmps - args'.size) undef, defers := [] } [.code c]) cs w) (lone F' cs' w') ∧
        F'.fn = f ∧ F'.kind = kind ∧ F'.defers = [] ∧ (∃ fn, P.funcs[f]? = some fn ∧ Left P fn F' w' e') ∧ CsTo kind cs cs' ∧ CtxRel φ' kind rcv' recd cs' := by
    intro fr' H1 u φ1 a1 cs1 w1 todo md hd hE1 hR1 hF1 hcs1 hM1 hst1
    obtain ⟨x, hx, hx2⟩ := Option.map_eq_some_iff.1 hd
    obtain ⟨e1, H2⟩ := x
    simp only [Prod.mk.injEq] at hx2
    obtain ⟨rfl, rfl, rfl⟩ := hx2
    obtain ⟨φ', w', e', F', g1, g2, g3, g4, g5, g6, g7, g8⟩ := leave_ok (cs := cs1) hrec hres _ u H1 _ _ φ1 w1 { on b a1 todo with mode := md } hx hR1 (hG.mono hE1.le) hF1.tmps hF1.defs hM1
    exact ⟨φ', w', F', e', cs1, fr'.rcv, hE1.trans g1, g2, g3, hst1.trans g4, g5, g6, g7, ⟨fn, hfn, g8⟩, hcs1, hF1.ctx.mono g1.le⟩
  split at hrun
  · rename_i fr' H1 hx
    rw [hcode] at hx
    obtain ⟨φ1, a1, cs1, w1, h1, h2, h3, h4, h5⟩ := dexec_ok (b := b) hm hrec n c _ _ _ _ _ _ [] _ hG hR hF hx
    exact fin fr' H1 none φ1 a1 cs1 w1 [] .returning hrun h1 h2 h3 h4 rfl (h5.trans (.one (s_end hro)))
  · rename_i fr' H1 hx
    rw [hcode] at hx
    obtain ⟨φ1, a1, cs1, w1, h1, h2, h3, h4, k', h5⟩ := dexec_ok (b := b) hm hrec n c _ _ _ _ _ _ [] _ hG hR hF hx
    exact fin fr' H1 none φ1 a1 cs1 w1 _ .returning hrun h1 h2 h3 h4 rfl (h5.trans (.one (s_ret hro)))
  · rename_i v fr' H1 hx
    rw [hcode] at hx
    obtain ⟨φ1, a1, cs1, w1, h1, h2, h3, h4, u, todo, h5, h6⟩ := dexec_ok (b := b) hm hrec n c _ _ _ _ _ _ [] _ hG hR hF hx
    exact fin fr' H1 (some v) φ1 a1 cs1 w1 todo _ hrun h1 h2 h3 h4 ⟨u, rfl, h5⟩ h6
  · cases hrun

/-- Behind a round. -/
theorem endRound_ok {d : Nat} {i : PI} {j : Option DJump} {jump : Option Code} {e : DEnd} {recd : Bool} {H' : DH} (hR : Rel P B0 φ H w) (hi : φ d = some i) (hj : JRel j jump) (hd : dendRound d j H = some (e, recd, H')) :
    ∃ w', (Instr.endRound i.b jump).run P w = .ok (.bool jump.isNone) w' ∧ e = .ret (.bool jump.isNone) ∧ Rel P B0 φ H' w' ∧ Ext B0 φ H w φ H' w' := by
  unfold dendRound at hd
  split at hd
  · rename_i l hg
    simp only [Option.some.injEq, Prod.mk.injEq] at hd
    obtain ⟨rfl, rfl, rfl⟩ := hd
    obtain ⟨L, h1, h2, h3, h4, h5, h6, h7, h8⟩ := getLoop_rel hR hi hg
    have hn : j.isNone = jump.isNone := by cases j with
      | none => cases jump <;> simp [JRel] at hj ⊢
      | some x => cases jump <;> cases x <;> simp [JRel] at hj ⊢
    rw [hn]
    obtain ⟨hR', hE'⟩ := setLoop_rel hR hi hg rfl (.loop { l with state := if jump.isNone then .ready else .done, pend := j }) (.loop { L with state := if jump.isNone then .ready else .done, pending := jump }) ⟨_, rfl, rfl, h3, h4, h5, h6, hj, h8⟩
    exact ⟨_, run_endRound jump h1, rfl, hR', hE'⟩
  · cases hd

theorem dcall_ok (hm : P.follows .mixedOrders = true) {D : FuncId → Option DFunc} (hD : ∀ f fn, D f = some fn → dprog P f = some fn) (hrec : RecOK P rec) (n : Nat) : RecOK P (dcall P D rec n) := by
  intro t H e recd H' h
  cases t with
  | fn dfr avail f args =>
    simp only [dcall] at h
    split at h
    · cases h
    · rename_i fn' hf
      have hf := hD _ _ hf
      split at h
      · rename_i hlen
        refine ⟨?_, by show (dprog P f).isSome = true; rw [hf]; rfl⟩
        cases dfr with
        | false =>
          intro B0 φ args' w hR hG hl cs
          obtain ⟨φ', w', F', e', cs', rcv', g1, g2, g3, g4, g5, g6, g7, ⟨fn, g8, g9⟩, g10, g11⟩ := fn_ok (rcv := none) (kind := .normal) (cs := cs) hm hrec n hf hlen hR hG hl (.inl ⟨rfl, rfl, rfl⟩) h
          have : cs' = cs := by
            rcases g10 with ⟨_, h⟩ | ⟨h, _⟩
            · exact h
            · cases h
          subst this
          refine ⟨φ', w', F', e', g1, g2, g3, g4, g5, ?_⟩
          cases e' with
          | returned v => exact ⟨g9.1, g7, g6, fn, g5 ▸ g8, g9.2⟩
          | panicked ch => exact ⟨g9, g7, fn, g5 ▸ g8⟩
          | outgrown => trivial
        | true =>
          intro B0 φ args' w hR hG hl c cs hmode
          obtain ⟨φ', w', F', e', cs', rcv', g1, g2, g3, g4, g5, g6, g7, ⟨fn, g8, g9⟩, g10, g11⟩ := fn_ok (rcv := avail) (kind := .deferred) (cs := c :: cs) hm hrec n hf hlen hR hG hl (.inr ⟨rfl, c, cs, rfl, hmode⟩) h
          rcases g10 with ⟨h, _⟩ | ⟨_, c', rest, m, hc, rfl, hmm⟩
          · cases h
          · cases hc
            rcases g11 with ⟨h, _⟩ | ⟨_, c2, rest2, hc2, hmr⟩
            · cases h
            · cases hc2
              refine ⟨φ', w', F', e', m, g1, g2, g3, g4, g6, ?_, rcv', hmr, fun hrd => ?_⟩
              · cases e' with
                | returned v => exact ⟨g9.1, g7, fn, g5 ▸ g8, g9.2⟩
                | panicked ch => exact ⟨g9, g7, fn, g5 ▸ g8⟩
                | outgrown => trivial
              · rcases hmm with hq | ⟨u, hq⟩
                · exact hq
                · exfalso
                  subst hrd
                  simp only at hmr
                  rcases hmr with ⟨_, _, _, _, h3, _⟩ | ⟨_, _, h2, _⟩ | ⟨_, _, h3⟩
                  · rw [hq] at h3; simp at h3
                  · cases h2
                  · rw [hq] at h3; cases h3
      · cases h
  | round d args =>
    refine ⟨?_, trivial⟩
    intro B0 φ args' w i hR hG hl hi
    simp only [dcall] at h
    split at h
    · rename_i l hg
      split at h
      · rename_i hready
        split at h
        · cases h
        · rename_i tmps htm
          obtain ⟨L, h1, h2, h3, h4, h5, ⟨nt, h6, h6b, h6s, h6p⟩, h7, h8⟩ := getLoop_rel hR hi hg
          rw [← h5] at htm h6p
          obtain ⟨hT, hlen⟩ := params_rel (L.params.toList) args args'.toList l.tmps tmps L.tmps htm hl h4 (fun p hp => by rw [h6s]; exact h6p p hp)
          have hz : ((L.params.toList.zip args'.toList).foldl (fun (tmps : Array Value) (p : Nat × Value) => tmps.setIfInBounds p.1 p.2) L.tmps) = ((L.params.zip args').foldl (fun tmps (t, a) => tmps.setIfInBounds t a) L.tmps) := by
            rw [← Array.foldl_toList, Array.toList_zip]
          rw [hz] at hT
          refine ⟨i.b, L.fn, _, L.assign, L.body, run_yield h1 (by simpa using hlen.symm), fun c cs => ?_⟩
          generalize hv : (L.params.zip args').foldl (fun tmps (t, a) => tmps.setIfInBounds t a) L.tmps = tv at *
          have htvs : tv.size = nt := by
            rw [← hv, ← h6s, ← Array.foldl_toList]
            generalize (L.params.zip args').toList = ls
            generalize L.tmps = t0
            induction ls generalizing t0 with
            | nil => rfl
            | cons p ls ihl => rw [List.foldl_cons, ihl]; simp
          let b : Frame := { (default : Frame) with fn := L.fn, kind := .normal, roundOf := some i.b }
          have hb0 : Frame.round i.b L.fn tv L.assign L.body .normal = on b { tmps := tv, defers := [] } [.code L.assign, .beginRound, .code L.body] := by
            simp [Frame.round, on, b]
          rw [hb0]
          have hF : FRel φ nt { tmps := tmps, defers := [], rcv := none, recd := false, round := true } b { tmps := tv, defers := [] } (c :: cs) := ⟨hT, htvs, trivial, rfl, .inl ⟨rfl, rfl, rfl⟩⟩
          have hbf : b.fn = l.fn := h3
          split at h
          · rename_i fr1 H1 hx
            rw [h6, ← hbf] at hx
            obtain ⟨φ1, a1, cs1, w1, g1, g2, g3, g4, g5⟩ := dexec_ok (b := b) hm hrec n L.assign _ _ _ _ _ _ [.beginRound, .code L.body] _ hG hR hF hx
            have hcs1 : cs1 = c :: cs := by
              rcases g4 with ⟨_, h⟩ | ⟨h, _⟩
              · exact h
              · cases h
            subst hcs1
            split at h
            · rename_i l1 hg1
              split at h
              · rename_i hr1
                have hi1 := g1.le _ _ hi
                obtain ⟨L1, k1, k2, k3, k4, k5, k6, k7, k8⟩ := getLoop_rel g2 hi1 hg1
                obtain ⟨hR2, hE2⟩ := setLoop_rel g2 hi1 hg1 rfl (.loop { l1 with state := .busy }) (.loop { L1 with state := .busy }) ⟨_, rfl, rfl, k3, k4, k5, k6, k7, k8⟩
                have hbr := stepR_beginRound (P := P) (b := b) (a := a1) (k := [.code L.body]) (cs := c :: cs) (l := i.b) rfl (run_beginRound k1 (k2.trans hr1))
                rw [← on_atR, ← on_atR] at hbr
                have hstart := g5.trans (.one hbr)
                have hE12 := g1.trans hE2
                split at h
                · rename_i fr2 H2 hx2
                  rw [h6b, ← hbf] at hx2
                  obtain ⟨φ2, a2, cs2, w2, q1, q2, q3, q4, q5⟩ := dexec_ok (b := b) hm hrec n L.body _ _ _ _ _ _ [] _ (hG.mono g1.le) hR2 g3 hx2
                  have hcs2 : cs2 = c :: cs := by
                    rcases q4 with ⟨_, h⟩ | ⟨h, _⟩
                    · exact h
                    · cases h
                  subst hcs2
                  obtain ⟨w3, e1, rfl, e3, e4⟩ := endRound_ok (j := none) (jump := none) q2 (q1.le _ _ hi1) trivial h
                  have hfin := stepR_round_end (P := P) (b := b) (a := a2) (cs := cs) (c := c) (l := i.b) rfl rfl e1
                  rw [← on_atR] at hfin
                  exact ⟨φ2, w3, (hE12.trans q1).trans e4, e3, _, .bool _, hstart.trans (q5.trans (.one hfin))⟩
                · rename_i id fr2 H2 hx2
                  rw [h6b, ← hbf] at hx2
                  obtain ⟨φ2, a2, cs2, w2, q1, q2, q3, q4, k', q5, q6⟩ := dexec_ok (b := b) hm hrec n L.body _ _ _ _ _ _ [] _ (hG.mono g1.le) hR2 g3 hx2
                  have hcs2 : cs2 = c :: cs := by
                    rcases q4 with ⟨_, h⟩ | ⟨h, _⟩
                    · exact h
                    · cases h
                  subst hcs2
                  obtain ⟨w3, e1, rfl, e3, e4⟩ := endRound_ok (j := some (.exit id)) (jump := some (.exit id)) q2 (q1.le _ _ hi1) rfl h
                  have hfin := stepR_round_exit (P := P) (b := b) (a := a2) (cs := cs) (c := c) (l := i.b) rfl rfl (q5.trans rfl) e1
                  rw [← on_atR] at hfin
                  exact ⟨φ2, w3, (hE12.trans q1).trans e4, e3, _, .bool _, hstart.trans (q6.trans (.one hfin))⟩
                · rename_i fr2 H2 hx2
                  rw [h6b, ← hbf] at hx2
                  obtain ⟨φ2, a2, cs2, w2, q1, q2, q3, q4, k', q6⟩ := dexec_ok (b := b) hm hrec n L.body _ _ _ _ _ _ [] _ (hG.mono g1.le) hR2 g3 hx2
                  have hcs2 : cs2 = c :: cs := by
                    rcases q4 with ⟨_, h⟩ | ⟨h, _⟩
                    · exact h
                    · cases h
                  subst hcs2
                  obtain ⟨w3, e1, rfl, e3, e4⟩ := endRound_ok (j := some .ret) (jump := some .ret) q2 (q1.le _ _ hi1) trivial h
                  have hfin := stepR_round_ret (P := P) (b := b) (a := a2) (k := k') (cs := cs) (c := c) (l := i.b) rfl rfl e1
                  rw [← on_atR] at hfin
                  exact ⟨φ2, w3, (hE12.trans q1).trans e4, e3, _, .bool _, hstart.trans (q6.trans (.one hfin))⟩
                · rename_i v fr2 H2 hx2
                  rw [h6b, ← hbf] at hx2
                  obtain ⟨φ2, a2, cs2, w2, q1, q2, q3, q4, u, todo, q5, q6⟩ := dexec_ok (b := b) hm hrec n L.body _ _ _ _ _ _ [] _ (hG.mono g1.le) hR2 g3 hx2
                  have hcs2 : cs2 = c :: cs := by
                    rcases q4 with ⟨_, h⟩ | ⟨h, _⟩
                    · exact h
                    · cases h
                  subst hcs2
                  split at h
                  · rename_i hcond
                    cases h
                    simp only [Bool.and_eq_true] at hcond
                    have hdf : a2.defers = [] := by
                      have := q3.defs
                      have hz2 : fr2.defers = [] := by simpa using hcond.1
                      simp only [hz2] at this
                      cases hh : a2.defers with
                      | nil => rfl
                      | cons _ _ => rw [hh] at this; exact this.elim
                    obtain ⟨fn', hfn'⟩ := Option.isSome_iff_exists.1 hcond.2
                    have hfn' := hD _ _ hfn'
                    obtain ⟨fn, _, hfn, _⟩ := dprog_spec hfn'
                    have hlv : Frame.leaving P { on b a2 todo with mode := .panicking [{ v := u, recovered := false }] } w2 (.panicked [{ v := u, recovered := false }]) := ⟨rfl, hdf, fn, by rw [← h3] at hfn; exact hfn⟩
                    exact ⟨φ2, w2, hE12.trans q1, q2, u, q5, hstart.trans (q6.trans (.one (step_leave_panicked hlv)))⟩
                  · cases h
                · cases h
              · cases h
            · cases h
          · cases h
      · cases h
    · cases h


theorem drun_ok (hm : P.follows .mixedOrders = true) {X : Tgt → DH → Option (DEnd × Bool × DH)} {D : FuncId → Option DFunc} (hD : ∀ f fn, D f = some fn → dprog P f = some fn) (hX : RecOK P X) : ∀ n, RecOK P (drun X P D n) := by
  intro n
  induction n with
  | zero => intro t H e recd H' h; cases h
  | succ n ih =>
    intro t H e recd H' h
    simp only [drun] at h
    split at h
    · rename_i r hx
      cases h
      exact hX _ _ _ _ _ hx
    · exact dcall_ok hm hD ih n t H e recd H' h

theorem noX_ok : RecOK P noX := fun _ _ _ _ _ h => by cases h

/-- A call, run by the twin. -/
theorem calls_of_drun (hm : P.follows .mixedOrders = true) {X : Tgt → DH → Option (DEnd × Bool × DH)} {D : FuncId → Option DFunc} (hD : ∀ f fn, D f = some fn → dprog P f = some fn) (hX : RecOK P X) {n : Nat} {f : FuncId} {args : List DV} {v : DV} {recd : Bool} {H' : DH} (h : drun X P D n (.fn false none f args) H = some (.ret v, recd, H'))
    {args' : Array Value} (hR : Rel P B0 φ H w) (hG : GRel P φ) (hl : LRel φ args args'.toList) :
    Calls P f args' w fun e w' => ∃ φ' u, e = .returned u ∧ VRel φ' v u ∧ Ext B0 φ H w φ' H' w' ∧ Rel P B0 φ' H' w' := by
  intro cs
  obtain ⟨φ', w', fr, e', g1, g2, g3, g4, g5, g6⟩ := (drun_ok hm hD hX n _ _ _ _ _ h).1 B0 φ args' w hR hG hl cs
  cases e' with
  | returned u => exact ⟨.returned u, w', fr, ⟨φ', u, rfl, g3, g1, g2⟩, g4, g5, g6⟩
  | panicked ch => exact g3.elim
  | outgrown => exact g3.elim
end
end Go.Proofs.YtfmmgggdgpfaaaaGreatDoor.DS
