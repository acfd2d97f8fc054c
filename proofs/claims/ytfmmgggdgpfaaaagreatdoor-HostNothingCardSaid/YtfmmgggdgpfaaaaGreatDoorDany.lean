/- A region, whatever its order. -/
import Derived.Test.YtfmmgggdgpfaaaaGreatDoorDord
namespace Go.Proofs.YtfmmgggdgpfaaaaGreatDoor.DS
open Go.RowKit (Below)
set_option linter.unusedVariables false
set_option linter.unusedSimpArgs false

section
variable {P : Program} {rec : Rec} {nt : Nat} {ops : Array Oper} {all : List (Oper × DItem)} {B0 : Nat} {φ0 : Phi} {H0 : DH} {w0 : World} {cs0 : List Frame} {b : Frame} {k : List Item} {out : DExit × DFr × DH}

/-- Between two operations of the machine's. -/
structure Inv (P : Program) (rec : Rec) (nt : Nat) (ops : Array Oper) (all : List (Oper × DItem)) (B0 : Nat) (φ0 : Phi) (H0 : DH) (w0 : World) (cs0 : List Frame) (b : Frame) (out : DExit × DFr × DH)
    (listed : Array Bool) (pend : List PIt) (rest : List (Oper × DItem)) (log : List DLog) (φ : Phi) (K : DH) (fr : DFr) (tm : Tr DV) (a : Act) (cs : List Frame) (w : World) : Prop where
  lst : Lst ops all (un pend rest) listed
  pnd : PendOK P φ K log H0.next tm pend fr.tmps
  nod : (pend.filterMap (·.blk)).Pairwise (fun x y => x.1 ≠ y.1)
  bnd : ∀ p ∈ pend, ∀ x, p.blk = some x → x.1 < K.next
  run : ditems P rec (all.map (·.2)) (rest.map (·.2)) log fr K = some out
  rel : Rel P B0 φ K w
  ext : Ext B0 φ0 H0 w0 φ K w
  frel : FRel φ nt { fr with tmps := tm } b a cs
  cst : CsTo b.kind cs0 cs

variable {listed : Array Bool} {pend : List PIt} {rest : List (Oper × DItem)} {log log' : List DLog} {φ : Phi} {K K' : DH} {fr : DFr} {tm : Tr DV} {a : Act} {cs : List Frame} {w : World}

theorem ItemVal.grow {p : PIt} {n0 : Nat} (hK : HLe K K') (hn : K.next ≤ K'.next) (hl : ∀ l ∈ log, l ∈ log') {t : Tr DV} (h : ItemVal P φ K log n0 p t) : ItemVal P φ K' log' n0 p t := by
  rcases h with h | ⟨h1, h2, h3, h4, h5, h6⟩ | ⟨h1, h2, h3, d, B, mk, h4, h5, h6, h7, h8, h9, h10⟩
  · exact .inl h
  · refine .inr (.inl ⟨h1, h2, h3, h4, (dop_quiet h2 h3 h5).2.2.1 K' hK, fun hh => ?_⟩)
    obtain ⟨l, m, r⟩ := h6 hh
    exact ⟨l, hl l m, r⟩
  · exact .inr (.inr ⟨h1, h2, h3, d, B, mk, h4, h5, h6, hK d B h7, h8, h9, Nat.lt_of_lt_of_le h10 hn⟩)

/-- The twin runs on over what is quiet. -/
theorem absorb (hS : Stat P nt ops all) : ∀ (rest : List (Oper × DItem)) (pend : List PIt) (log : List DLog) (K : DH) (fr : DFr),
    Inv P rec nt ops all B0 φ0 H0 w0 cs0 b out listed pend rest log φ K fr tm a cs w →
    ∃ pend' rest' log' K' fr', Inv P rec nt ops all B0 φ0 H0 w0 cs0 b out listed pend' rest' log' φ K' fr' tm a cs w ∧ un pend' rest' = un pend rest ∧ ∀ e r, rest' = e :: r → e.2.eff = true := by
  intro rest
  induction rest with
  | nil => exact fun pend log K fr h => ⟨pend, [], log, K, fr, h, rfl, fun _ _ h => nomatch h⟩
  | cons e r ih =>
    intro pend log K fr h
    cases heff : e.2.eff with
    | true => exact ⟨pend, e :: r, log, K, fr, h, rfl, fun e' r' he => by cases he; exact heff⟩
    | false =>
      have hmem : e ∈ all := h.lst.sub.subset (by simp [un])
      obtain ⟨_, _, hacts⟩ := hS.op e hmem
      rw [heff] at hacts
      have hrun := h.run
      simp only [List.map_cons, ditems] at hrun
      split at hrun
      · rename_i fr' H' hstep
        rw [heff] at hrun
        simp only [Bool.false_eq_true, if_false] at hrun
        split at hrun
        · cases hrun
        · rename_i hfresh
          -- the new item
          have key : ∃ v blk, fr' = fr.put e.2.o.dst v ∧ HLe K H' ∧ K.next ≤ H'.next ∧ Rel P B0 φ H' w ∧ Ext B0 φ0 H0 w0 φ H' w ∧ (∀ x, blk = some x → K.next ≤ x.1 ∧ x.1 < H'.next) ∧
              (e.2.o.op.looks = true → wantT fr.tmps e.2.o.guard = some true → quietVal P e.2.o.op fr K = some v) ∧
              ∀ log', (e.2.o.op.looks = true → wantT fr.tmps e.2.o.guard = some true → ∃ l ∈ log', l.idx = e.2.idx ∧ l.o = e.2.o.op ∧ l.v = v ∧ l.fr = fr) →
                ItemVal P φ H' log' H0.next { o := e.1, d := e.2, v, blk } fr.tmps := by
            unfold dstep at hstep
            rw [dwant_wantT] at hstep
            split at hstep
            · rename_i hw
              split at hstep
              · rename_i x H2 hdop
                rw [eval_ev] at hdop
                cases hm : e.2.o.op.makes with
                | false =>
                  obtain ⟨rfl, ⟨v, rfl⟩, _, _⟩ := dop_quiet hacts.symm hm hdop
                  simp only [dapply, Option.some.injEq, DR.go.injEq] at hstep
                  obtain ⟨rfl, rfl⟩ := hstep
                  refine ⟨v, none, rfl, fun d b h => h, Nat.le_refl _, h.rel, h.ext, fun x hx => by simp at hx, fun _ _ => by rw [← eval_ev] at hdop; simp [quietVal, hdop], fun log' hlog => .inr (.inl ⟨hw, hacts.symm, hm, rfl, hdop, fun hl => ?_⟩)⟩
                  obtain ⟨l, h1, h2, h3, h4, h5⟩ := hlog hl hw
                  exact ⟨l, h1, h2, h3, h4, fun x _ => by rw [h5, eval_ev]⟩
                | true =>
                  rw [dop_makes hm] at hdop
                  unfold dnew at hdop
                  split at hdop
                  · rename_i B mk hB
                    simp only [Option.some.injEq, Prod.mk.injEq] at hdop
                    obtain ⟨rfl, rfl⟩ := hdop
                    simp only [dapply, Option.some.injEq, DR.go.injEq] at hstep
                    obtain ⟨rfl, rfl⟩ := hstep
                    have hf : (K.get K.next).isSome = false := by simpa [hm] using hfresh
                    refine ⟨mk K.next, some (K.next, B, mk), rfl, HLe.new hf B, by rw [DH.next_new]; omega, h.rel.grow B, h.ext.grow B, fun x hx => ?_, fun hl _ => ?_, fun log' hlog => .inr (.inr ⟨hw, hacts.symm, hm, K.next, B, mk, rfl, hB, rfl, ?_, ?_, h.ext.nxt, ?_⟩)⟩
                    · cases hx; exact ⟨Nat.le_refl _, by rw [DH.next_new]; omega⟩
                    · exfalso
                      generalize e.2.o.op = op at hl hm
                      cases op <;> simp_all [DOp.looks, DOp.makes]
                    · rw [DH.get_new, if_pos rfl]
                    · exact h.rel.none_of_ge (Nat.le_refl _)
                    · rw [DH.next_new]; omega
                  · cases hdop
              · cases hstep
            · rename_i hw
              cases hstep
              exact ⟨dundef, none, rfl, fun d b h => h, Nat.le_refl _, h.rel, h.ext, fun x hx => by simp at hx, fun _ h2 => by rw [hw] at h2; simp at h2, fun log' hlog => .inl ⟨hw, rfl, rfl⟩⟩
            · cases hstep
          obtain ⟨v, blk, hfr, hle, hnx, hrel, hext, hblk, hq, hitem⟩ := key
          generalize hlg : (if e.2.o.op.looks = true ∧ dwant fr e.2.o.guard = some true then { idx := e.2.idx, o := e.2.o.op, fr := fr, v := (quietVal P e.2.o.op fr K).getD .bad } :: log else log) = lg at hrun
          have hsub : ∀ l ∈ log, l ∈ lg := by
            intro l hl
            rw [← hlg]
            split
            · exact List.mem_cons_of_mem _ hl
            · exact hl
          have hv : e.2.o.op.looks = true → wantT fr.tmps e.2.o.guard = some true → ∃ l ∈ lg, l.idx = e.2.idx ∧ l.o = e.2.o.op ∧ l.v = v ∧ l.fr = fr := by
            intro h1 h2
            rw [← hlg, if_pos ⟨h1, by rw [dwant_wantT]; exact h2⟩]
            exact ⟨_, List.mem_cons_self .., rfl, rfl, by simp [hq h1 h2], rfl⟩
          have hun : un (pend ++ [{ o := e.1, d := e.2, v, blk }]) r = un pend (e :: r) := by simp [un]
          obtain ⟨pend', rest', log', K', fr2, h1, h2, h3⟩ := ih (pend ++ [{ o := e.1, d := e.2, v, blk }]) lg H' fr' {
            lst := hun ▸ h.lst
            pnd := by
              rw [hfr, put_tmps]
              exact (h.pnd.imp fun p _ t hp => hp.grow hle hnx hsub).snoc (q := { o := e.1, d := e.2, v, blk }) (hitem lg hv)
            nod := by
              rw [List.filterMap_append, List.pairwise_append]
              refine ⟨h.nod, by cases blk <;> simp, fun x hx y hy => ?_⟩
              obtain ⟨p, hp, hpx⟩ := List.mem_filterMap.1 hx
              have := h.bnd p hp x hpx
              have hy' : blk = some y := by simpa using hy
              have := hblk y hy'
              omega
            bnd := by
              intro p hp x hx
              rcases List.mem_append.1 hp with hp | hp
              · have := h.bnd p hp x hx; omega
              · simp only [List.mem_singleton] at hp
                subst hp
                exact (hblk x hx).2
            run := hrun
            rel := hrel
            ext := hext
            frel := by
              have : ({ fr' with tmps := tm } : DFr) = { fr with tmps := tm } := by rw [hfr]; cases e.2.o.dst <;> rfl
              rw [this]; exact h.frel
            cst := h.cst }
          exact ⟨pend', rest', log', K', fr2, h1, h2.trans hun, h3⟩
      · rename_i v fr' H' hstep
        rw [heff] at hrun
        simp at hrun
      · cases hrun
end
end Go.Proofs.YtfmmgggdgpfaaaaGreatDoor.DS
