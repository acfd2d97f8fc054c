/- Code. -/
import Derived.Test.YtfmmgggdgpfaaaaGreatDoorDreg
namespace Go.Proofs.YtfmmgggdgpfaaaaGreatDoor.DS
open Go.RowKit (Below)
set_option linter.unusedVariables false
set_option linter.unusedSimpArgs false

section
variable {P : Program} {rec : Rec} {nt : Nat} {B0 : Nat} {φ : Phi} {H : DH} {w : World} {cs : List Frame} {b : Frame} {k k1 : List Item} {out x : DExit × DFr × DH} {fr : DFr} {a : Act} {m : Machine}

theorem CRes.weaken (hx : x.1 ≠ .normal) (he : ∀ id, x.1 = .exit id → exitTo id k1 = exitTo id k) (h : CRes P B0 φ H w nt b cs m k1 x) : CRes P B0 φ H w nt b cs m k x := by
  obtain ⟨φ', a', cs', w', h1, h2, h3, h4, h5⟩ := h
  refine ⟨φ', a', cs', w', h1, h2, h3, h4, ?_⟩
  obtain ⟨e, fr', H'⟩ := x
  cases e with
  | normal => exact absurd rfl hx
  | exit id => obtain ⟨k', e1, e2⟩ := h5; exact ⟨k', e1.trans (he id rfl), e2⟩
  | ret => exact h5
  | panic v => exact h5

theorem CRes.bind {fr1 : DFr} {H1 : DH} (hG : GRel P φ) (h : CRes P B0 φ H w nt b cs m k1 (.normal, fr1, H1))
    (hn : ∀ φ1 a1 cs1 w1, GRel P φ1 → Rel P B0 φ1 H1 w1 → FRel φ1 nt fr1 b a1 cs1 → CRes P B0 φ1 H1 w1 nt b cs1 (lone (on b a1 k1) cs1 w1) k x) : CRes P B0 φ H w nt b cs m k x := by
  obtain ⟨φ', a', cs', w', h1, h2, h3, h4, h5⟩ := h
  obtain ⟨φ2, a2, cs2, w2, g1, g2, g3, g4, g5⟩ := CRes.head h5 (hn φ' a' cs' w' (hG.mono h1.le) h2 h3)
  exact ⟨φ2, a2, cs2, w2, h1.trans g1, g2, g3, h4.trans g4, g5⟩

theorem CRes.done (hR : Rel P B0 φ H w) (hF : FRel φ nt fr b a cs) (h : Steps P m (lone (on b a k) cs w)) : CRes P B0 φ H w nt b cs m k (.normal, fr, H) :=
  ⟨φ, a, cs, w, .refl _ _ _ _, hR, hF, CsTo.refl hF.ctx, h⟩

theorem on_atR (b : Frame) (a : Act) (todo : List Item) : on b a todo = b.atR a todo := rfl

theorem getLoop_rel (hR : Rel P B0 φ H w) {d : Nat} {i : PI} {l : DLoop} {own : Bool} (hi : φ d = some i) (hg : H.get d = some { own, obj := .loop l }) :
    ∃ L : Loop, w.heap[i.b]? = some (.loop L) ∧ L.state = l.state ∧ L.fn = l.fn ∧ TRel φ l.tmps L.tmps ∧ L.params.toList = l.params ∧
      (∃ n, l.assign = cCode P n L.assign ∧ l.body = cCode P n L.body ∧ L.tmps.size = n ∧ ∀ p ∈ l.params, p < n) ∧ JRel l.pend L.pending ∧ (∃ j, φ l.defs = some j ∧ L.defers = j.b) := by
  obtain ⟨o, ho, L, rfl, h⟩ := hR.blk d i _ hi hg
  exact ⟨L, ho, h⟩

theorem putObj_below {n0 : Nat} {w : World} {r : Nat} {o : Obj} (h : n0 ≤ r) : Below n0 w (w.putObj r o) :=
  ⟨rfl, rfl, rfl, by simp [World.putObj], fun k hk => World.putObj_heap_other (by omega)⟩

/-- A loop's record, changed. -/
theorem setLoop_rel (hR : Rel P B0 φ H w) {d : Nat} {i : PI} {B : DBlk} (hi : φ d = some i) (hg : H.get d = some B) (hown : B.own = true) (x : DObj) (o : Obj) (ho : ORel P φ i x o) :
    Rel P B0 φ (H.set d { own := true, obj := x }) (w.putObj i.b o) ∧ Ext B0 φ H w φ (H.set d { own := true, obj := x }) (w.putObj i.b o) :=
  hR.update hi hg hown x o _ ho World.putObj_size (World.putObj_heap_same (hR.lt_size hi hg)) (fun k hk => World.putObj_heap_other hk) rfl rfl rfl

/-- Behind the range function. -/
theorem endLoop_ok {dl : Nat} {i : PI} (hR : Rel P B0 φ H w) (hF : FRel φ nt fr b a cs) (hi : φ dl = some i) (hd : dendLoop dl fr H = some out) :
    CRes P B0 φ H w nt b cs (lone (on b a (.endRangeFunc i.b :: k)) cs w) k out := by
  unfold dendLoop at hd
  split at hd
  · rename_i l hg
    split at hd
    · cases hd
    · rename_i hb
      obtain ⟨L, h1, h2, h3, h4, h5, h6, h7, h8⟩ := getLoop_rel hR hi hg
      have hb' : L.state ≠ .busy := by rw [h2]; exact hb
      have hst := stepR_endRangeFunc (P := P) (b := b) (a := a) (k := k) (cs := cs) (run_endLoop h1 hb')
      rw [← on_atR, ← on_atR] at hst
      obtain ⟨hR', hE'⟩ := setLoop_rel hR hi hg rfl (.loop { l with state := .exhausted }) (.loop { L with state := .exhausted }) ⟨_, rfl, rfl, h3, h4, h5, h6, h7, h8⟩
      simp only at hd
      cases hp : l.pend with
      | none =>
        rw [hp] at hd h7 hR' hE'
        cases hd
        cases hq : L.pending with
        | some c => rw [hq] at h7; simp [JRel] at h7
        | none =>
          rw [hq] at hst hR' hE'
          exact ⟨φ, a, cs, _, hE', hR', hF, CsTo.refl hF.ctx, .one hst⟩
      | some j =>
        rw [hp] at hd h7 hR' hE'
        cases hd
        cases hq : L.pending with
        | none => rw [hq] at h7; cases j <;> simp [JRel] at h7
        | some c =>
          rw [hq] at hst h7 hR' hE'
          refine ⟨φ, a, cs, _, hE', hR', hF, CsTo.refl hF.ctx, ?_⟩
          cases j with
          | exit id =>
            cases c <;> simp only [JRel] at h7
            subst h7
            exact ⟨k, rfl, .one hst⟩
          | ret =>
            cases c <;> simp only [JRel] at h7
            exact ⟨k, .one hst⟩
  · cases hd

theorem range_ok (hrec : RecOK P rec) {g : Operand} {g' : DOpd} {ps : Array Tmp} {as bd : Code} (hg : cOpd P g = some g') (hps : ps.toList.all (· < nt) = true) (hR : Rel P B0 φ H w) (hG : GRel P φ) (hF : FRel φ nt fr b a cs)
    (hd : drange rec b.fn ps.toList (cCode P nt as) (cCode P nt bd) (fr.eval g') fr H = some out) : CRes P B0 φ H w nt b cs (lone (on b a (.code (.rangeFunc g ps as bd) :: k)) cs w) k out := by
  unfold drange at hd
  split at hd
  · cases hd
  · rename_i hround
    have hro : b.roundOf = none := by
      have := hF.rnd
      cases h : b.roundOf with
      | none => rfl
      | some l => rw [h] at this; simp at this; exact absurd this hround
    have hv := opd_rel hG hF.tmps hg
    split at hd
    · rename_i f first cap hfe
      rw [hfe] at hv
      obtain ⟨first', cap', hav, hf1, hf2⟩ := hv.func_iff
      -- the two blocks
      obtain ⟨hR1, hE1⟩ := hR.alloc { own := true, obj := .defs false } (.deferred (some [])) 0 rfl
      generalize hφ1 : φ.with H.next ⟨w.heap.size, 0, 0⟩ = φ1 at *
      have hdd : φ1 H.next = some ⟨w.heap.size, 0, 0⟩ := by rw [← hφ1]; exact Phi.with_self _ _ _
      let L : Loop := { state := .ready, pending := none, fn := b.fn, tmps := a.tmps, params := ps, assign := as, body := bd, defers := w.heap.size }
      let l : DLoop := { state := .ready, pend := none, fn := b.fn, tmps := fr.tmps, params := ps.toList, assign := cCode P nt as, body := cCode P nt bd, defs := H.next }
      have hsz1 : (w.alloc (.deferred (some []))).heap.size = w.heap.size + 1 := World.size_alloc _ _
      have hO : ORel P (φ1.with (H.new { own := true, obj := .defs false }).next ⟨(w.alloc (.deferred (some []))).heap.size, 0, 0⟩) ⟨(w.alloc (.deferred (some []))).heap.size, 0, 0⟩ (.loop l) (.loop L) := by
        have hle : φ1.le (φ1.with (H.new { own := true, obj := .defs false }).next ⟨(w.alloc (.deferred (some []))).heap.size, 0, 0⟩) := Phi.le_with _ (hR1.none_of_ge (Nat.le_refl _))
        refine ⟨L, rfl, rfl, rfl, (hF.tmps.mono hE1.le).mono hle, rfl, ⟨nt, rfl, rfl, hF.size, fun p hp => ?_⟩, trivial, ⟨_, hle _ _ hdd, rfl⟩⟩
        simpa using (List.all_eq_true.1 hps p hp)
      obtain ⟨hR2, hE2⟩ := hR1.alloc { own := true, obj := .loop l } (.loop L) 0 hO
      have hdl : ∃ φ2, φ2 = φ1.with (H.new { own := true, obj := .defs false }).next ⟨(w.alloc (.deferred (some []))).heap.size, 0, 0⟩ := ⟨_, rfl⟩
      obtain ⟨φ2, hφ2⟩ := hdl
      rw [← hφ2] at hR2 hE2
      have hdl2 : φ2 (H.next + 1) = some ⟨w.heap.size + 1, 0, 0⟩ := by rw [hφ2, ← hsz1]; exact Phi.with_self _ _ _
      have hE12 := hE1.trans hE2
      have hF2 : FRel φ2 nt { fr with defers := .collected H.next :: fr.defers } b { a with defers := { target := .collected w.heap.size, args := #[] } :: a.defers } cs :=
        ⟨hF.tmps.mono hE12.le, hF.size, ⟨⟨_, hE2.le _ _ hdd, rfl⟩, hF.defs.mono hE12.le⟩, hF.rnd, hF.ctx.mono hE12.le⟩
      have hargs : LRel φ2 (first ++ [.yield (H.next + 1)] ++ cap) (first' ++ #[Value.func (.yield (w.heap.size + 1)) #[] #[]] ++ cap').toList := by
        rw [Array.toList_append, Array.toList_append]
        exact ((hf1.mono hE12.le).append (LRel.cons (.yield _ _ hdl2) (LRel.nil _))).append (hf2.mono hE12.le)
      have hen := run_enterLoop_outer (P := P) (w := w) b.fn a.tmps ps as bd
      rw [← hro] at hen
      have henter : (dprog P f).isSome = true → step P (lone (on b a (.code (.rangeFunc g ps as bd) :: k)) cs w) =
          .next (lone (Frame.enter P f (first' ++ #[Value.func (.yield (w.heap.size + 1)) #[] #[]] ++ cap') .normal)
            (on b { a with defers := { target := .collected w.heap.size, args := #[] } :: a.defers } (.inRangeFunc (w.heap.size + 1) :: k) :: cs) ((w.alloc (.deferred (some []))).alloc (.loop L))) := by
        intro hpr
        refine stepR_rangeFunc (b := b) (a := a) (w₁' := (w.alloc (.deferred (some []))).alloc (.loop L)) (d := { target := .fn (.func f) cap', args := first' ++ #[Value.func (.yield (w.heap.size + 1)) #[] #[]] }) hen ?_ ?_
        · unfold resolve
          have hmap : Array.map a.eval #[Operand.const (Value.func (.yield (w.heap.size + 1)) #[] #[])] = #[Value.func (.yield (w.heap.size + 1)) #[] #[]] := by
            apply Array.toList_inj.1; rw [Array.toList_map]; rfl
          simp only [hav, Deferred.ofValue, hmap, Sem.run_pure]
          rfl
        · simp [invoke, callFunc_enter hpr]
      simp only at hd
      split at hd
      · rename_i v recd H2 hcall
        obtain ⟨hT, hpr⟩ := hrec _ _ _ _ _ hcall
        obtain ⟨φ', w', frX, e', hE, hR', hend, hst, hfn, hlv⟩ := hT B0 φ2 _ _ hR2 ((hG.mono hE12.le)) hargs (on b { a with defers := { target := .collected w.heap.size, args := #[] } :: a.defers } (.inRangeFunc (w.heap.size + 1) :: k) :: cs)
        cases e' <;> simp only [EndRel] at hend
        have hs2 := step_leave_returned (c := on b { a with defers := { target := .collected w.heap.size, args := #[] } :: a.defers } (.inRangeFunc (w.heap.size + 1) :: k)) (cs := cs) hlv
        rw [on_atR, finish_atR_inRangeFunc, ← on_atR] at hs2
        obtain ⟨φ3, a3, cs3, w3, g1, g2, g3, g4, g5⟩ := CRes.head (.head (henter hpr) (hst.trans (.one hs2))) (endLoop_ok (k := k) hR' (hF2.mono hE.le) (hE.le _ _ hdl2) hd)
        exact ⟨φ3, a3, cs3, w3, (hE12.trans hE).trans g1, g2, g3, g4, g5⟩
      · rename_i v recd H2 hcall
        cases hd
        obtain ⟨hT, hpr⟩ := hrec _ _ _ _ _ hcall
        obtain ⟨φ', w', frX, e', hE, hR', hend, hst, hfn, hlv⟩ := hT B0 φ2 _ _ hR2 ((hG.mono hE12.le)) hargs (on b { a with defers := { target := .collected w.heap.size, args := #[] } :: a.defers } (.inRangeFunc (w.heap.size + 1) :: k) :: cs)
        cases e' <;> simp only [EndRel] at hend
        obtain ⟨u, rfl, hu⟩ := hend
        have hs2 := step_leave_panicked (c := on b { a with defers := { target := .collected w.heap.size, args := #[] } :: a.defers } (.inRangeFunc (w.heap.size + 1) :: k)) (cs := cs) hlv
        exact ⟨φ', _, cs, w', hE12.trans hE, hR', hF2.mono hE.le, CsTo.refl (hF2.mono hE.le).ctx, u, _, hu, .head (henter hpr) (hst.trans (.one hs2))⟩
      · cases hd
    · cases hd

theorem dexec_ok (hm : P.follows .mixedOrders = true) (hrec : RecOK P rec) (n : Nat) : ∀ (c : Code) (φ : Phi) (H : DH) (w : World) (fr : DFr) (a : Act) (cs : List Frame) (k : List Item) (out : DExit × DFr × DH),
    GRel P φ → Rel P B0 φ H w → FRel φ nt fr b a cs → dexec P rec n b.fn (cCode P nt c) fr H = some out → CRes P B0 φ H w nt b cs (lone (on b a (.code c :: k)) cs w) k out := by
  intro c
  induction c with
  | skip =>
    intro φ H w fr a cs k out hG hR hF hd
    cases hd
    exact .done hR hF (.one s_skip)
  | region id ops draw =>
    intro φ H w fr a cs k out hG hR hF hd
    cases draw with
    | false => exact region_ord hrec hR hG hF hd
    | true =>
      simp only [cCode] at hd
      cases hc : cItems P nt id ops with
      | dregion i items => rw [hc] at hd; exact region_any hm hrec hR hG hF hc hd
      | unsup => rw [hc] at hd; cases hd
      | _ => unfold cItems at hc; simp only at hc; split at hc <;> cases hc
  | seq x y ihx ihy =>
    intro φ H w fr a cs k out hG hR hF hd
    have hd' : dseq (dexec P rec n b.fn (cCode P nt y)) (dexec P rec n b.fn (cCode P nt x) fr H) = some out := hd
    refine CRes.head (.one s_seq) ?_
    cases hx : dexec P rec n b.fn (cCode P nt x) fr H with
    | none => rw [hx] at hd'; cases hd'
    | some o =>
      obtain ⟨e, fr1, H1⟩ := o
      have h1 := ihx φ H w fr a cs (.code y :: k) _ hG hR hF hx
      rw [hx] at hd'
      cases e with
      | normal => exact h1.bind hG fun φ1 a1 cs1 w1 g1 g2 g3 => ihy φ1 H1 w1 fr1 a1 cs1 k out g1 g2 g3 hd'
      | exit id => cases hd'; exact h1.weaken (by simp) fun _ _ => rfl
      | ret => cases hd'; exact h1.weaken (by simp) fun _ _ => rfl
      | panic v => cases hd'; exact h1.weaken (by simp) fun _ _ => rfl
  | cond z x y ihx ihy =>
    intro φ H w fr a cs k out hG hR hF hd
    simp only [cCode] at hd
    split at hd
    · rename_i z' hz
      have hv := opd_rel hG hF.tmps hz
      have hd' : dcond (fun _ => dexec P rec n b.fn (cCode P nt x) fr H) (fun _ => dexec P rec n b.fn (cCode P nt y) fr H) (fr.eval z') = some out := hd
      cases he : fr.eval z' with
      | bool t =>
        rw [he] at hd' hv
        cases hu : a.eval z <;> rw [hu] at hv <;> cases hv
        refine CRes.head (.one (s_cond hu)) ?_
        cases t with
        | true => exact ihx φ H w fr a cs k out hG hR hF hd'
        | false => exact ihy φ H w fr a cs k out hG hR hF hd'
      | _ => rw [he] at hd'; cases hd'
    · cases hd
  | block id x ih =>
    intro φ H w fr a cs k out hG hR hF hd
    have hd' : dblock id (dexec P rec n b.fn (cCode P nt x) fr H) = some out := hd
    refine CRes.head (.one s_block) ?_
    cases hx : dexec P rec n b.fn (cCode P nt x) fr H with
    | none => rw [hx] at hd'; cases hd'
    | some o =>
      obtain ⟨e, fr1, H1⟩ := o
      have h1 := ih φ H w fr a cs (.inBlock id :: k) _ hG hR hF hx
      rw [hx] at hd'
      cases e with
      | normal => cases hd'; exact h1.bind hG fun φ1 a1 cs1 w1 g1 g2 g3 => .done g2 g3 (.one s_inBlock)
      | exit id' =>
        simp only [dblock] at hd'
        split at hd'
        · rename_i he
          subst he
          cases hd'
          obtain ⟨φ1, a1, cs1, w1, g1, g2, g3, g4, k', g5, g6⟩ := h1
          refine ⟨φ1, a1, cs1, w1, g1, g2, g3, g4, g6.trans (.one (s_exit ?_))⟩
          rw [g5]; simp [exitTo]
        · rename_i hne
          cases hd'
          exact h1.weaken (by simp) fun i hi => by
            cases hi
            have : (id == id') = false := by simpa using fun e => hne (Eq.symm e)
            simp [exitTo, this]
      | ret => cases hd'; exact h1.weaken (by simp) fun _ h => by cases h
      | panic v => cases hd'; exact h1.weaken (by simp) fun _ h => by cases h
  | loop x ih =>
    intro φ H w fr a cs k out hG hR hF hd
    have hd' : diter (dexec P rec n b.fn (cCode P nt x)) n fr H = some out := hd
    refine CRes.head (.one s_loop) ?_
    have key : ∀ (q : Nat) (φ : Phi) (H : DH) (w : World) (fr : DFr) (a : Act) (cs : List Frame), GRel P φ → Rel P B0 φ H w → FRel φ nt fr b a cs → diter (dexec P rec n b.fn (cCode P nt x)) q fr H = some out →
        CRes P B0 φ H w nt b cs (lone (on b a (.code x :: .inLoop x :: k)) cs w) k out := by
      intro q
      induction q with
      | zero => intro φ H w fr a cs hG hR hF hd; cases hd
      | succ q ihq =>
        intro φ H w fr a cs hG hR hF hd
        simp only [diter] at hd
        cases hx : dexec P rec n b.fn (cCode P nt x) fr H with
        | none => rw [hx] at hd; cases hd
        | some o =>
          obtain ⟨e, fr1, H1⟩ := o
          have h1 := ih φ H w fr a cs (.inLoop x :: k) _ hG hR hF hx
          rw [hx] at hd
          cases e with
          | normal => exact h1.bind hG fun φ1 a1 cs1 w1 g1 g2 g3 => CRes.head (.one s_inLoop) (ihq φ1 H1 w1 fr1 a1 cs1 g1 g2 g3 hd)
          | exit id => cases hd; exact h1.weaken (by simp) fun _ _ => rfl
          | ret => cases hd; exact h1.weaken (by simp) fun _ _ => rfl
          | panic v => cases hd; exact h1.weaken (by simp) fun _ _ => rfl
    exact key n φ H w fr a cs hG hR hF hd'
  | exit id =>
    intro φ H w fr a cs k out hG hR hF hd
    cases hd
    exact ⟨φ, a, cs, w, .refl _ _ _ _, hR, hF, CsTo.refl hF.ctx, k, rfl, .refl _ _⟩
  | ret =>
    intro φ H w fr a cs k out hG hR hF hd
    cases hd
    exact ⟨φ, a, cs, w, .refl _ _ _ _, hR, hF, CsTo.refl hF.ctx, k, .refl _ _⟩
  | rangeFunc g ps x y _ _ =>
    intro φ H w fr a cs k out hG hR hF hd
    simp only [cCode] at hd
    split at hd
    · rename_i g' hg
      split at hd
      · rename_i hps
        exact range_ok hrec hg hps hR hG hF hd
      · cases hd
    · cases hd
  | _ => intro φ H w fr a cs k out hG hR hF hd; cases hd
end
end Go.Proofs.YtfmmgggdgpfaaaaGreatDoor.DS
