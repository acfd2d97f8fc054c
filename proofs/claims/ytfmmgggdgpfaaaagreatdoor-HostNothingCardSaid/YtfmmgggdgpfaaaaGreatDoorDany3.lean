/- A region, whatever its order: the whole. -/
import Derived.Test.YtfmmgggdgpfaaaaGreatDoorDany2
namespace Go.Proofs.YtfmmgggdgpfaaaaGreatDoor.DS
open Go.RowKit (Below)
set_option linter.unusedVariables false
set_option linter.unusedSimpArgs false

section
variable {P : Program} {rec : Rec} {nt : Nat} {ops : Array Oper} {all : List (Oper × DItem)} {B0 : Nat} {φ0 : Phi} {H0 : DH} {w0 : World} {cs0 : List Frame} {b : Frame} {k : List Item} {out : DExit × DFr × DH}

theorem VRel_beq : ∀ (u v : DV), DV.beq u v = true → u = v := by
  intro u
  refine @DV.rec (fun u => ∀ v, DV.beq u v = true → u = v) (fun us => ∀ vs, DV.beqs us vs = true → us = vs) ?_ ?_ ?_ ?_ ?_ ?_ ?_ ?_ ?_ ?_ ?_ ?_ ?_ ?_ ?_ ?_ ?_ ?_ ?_ u
  case refine_18 => intro vs h; cases vs with
    | nil => rfl
    | cons a b => simp [DV.beqs] at h
  case refine_19 =>
    intro a as ih1 ih2 vs h
    cases vs with
    | nil => simp [DV.beqs] at h
    | cons c ds =>
      simp only [DV.beqs, Bool.and_eq_true] at h
      rw [ih1 _ h.1, ih2 _ h.2]
  all_goals
    intros
    rename_i v h
    cases v <;> simp_all [DV.beq]
  all_goals (try grind)

theorem recheck_spec {mask : Nat} {H : DH} : ∀ {log : List DLog}, recheck P mask H log = true → ∀ l ∈ log, mask.testBit l.idx = true ∨ quietVal P l.o l.fr H = some l.v
  | [], _, l, hl => by cases hl
  | x :: xs, h, l, hl => by
    simp only [recheck, Bool.and_eq_true, Bool.or_eq_true] at h
    rcases List.mem_cons.1 hl with rfl | hl
    · rcases h.1 with h1 | h1
      · exact .inl h1
      · right
        split at h1
        · rename_i v hv; rw [hv, VRel_beq _ _ h1]
        · cases h1
    · exact recheck_spec h.2 l hl

theorem poison_get : ∀ (is : List DItem) (t : Tr DV) (s : Nat), (poison is t).get s = some .bad ∨ ((poison is t).get s = t.get s ∧ ∀ i ∈ is, i.o.dst ≠ some s)
  | [], t, s => .inr ⟨rfl, fun _ h => by cases h⟩
  | i :: is, t, s => by
    have e0 : poison (i :: is) t = poison is (putT t i.o.dst .bad) := by simp only [poison, putT]; cases i.o.dst <;> rfl
    rw [e0]
    rcases poison_get is (putT t i.o.dst .bad) s with h | ⟨h, h2⟩
    · exact .inl h
    · rw [h, get_putT]
      by_cases e : i.o.dst = some s
      · left; rw [if_pos e]
      · right
        rw [if_neg e]
        refine ⟨rfl, fun j hj => ?_⟩
        rcases List.mem_cons.1 hj with rfl | hj
        · exact e
        · exact h2 j hj

variable {listed : Array Bool} {pend : List PIt} {rest : List (Oper × DItem)} {log log' : List DLog} {φ : Phi} {K K' : DH} {fr : DFr} {tm : Tr DV} {a : Act} {cs : List Frame} {w : World}

theorem run_any (hrec : RecOK P rec) (hS : Stat P nt ops all) : ∀ (fuel t : Nat) (listed : Array Bool) (pend : List PIt) (rest : List (Oper × DItem)) (log : List DLog) (φ : Phi) (K : DH) (fr : DFr) (tm : Tr DV) (a : Act)
    (cs : List Frame) (w : World), GRel P φ → Inv P rec nt ops all B0 φ0 H0 w0 cs0 b out listed pend rest log φ K fr tm a cs w → (∀ e r, rest = e :: r → e.2.eff = true) → pend.length + rest.length ≤ fuel →
    CRes P B0 φ0 H0 w0 nt b cs0 (lone (on b a (.inRegion ops (Region.linearise.go .any ops fuel t listed []) :: k)) cs w) k out := by
  intro fuel
  -- the end
  have hend : ∀ (listed : Array Bool) (log : List DLog) (φ : Phi) (K : DH) (fr : DFr) (tm : Tr DV) (a : Act) (cs : List Frame) (w : World),
      Inv P rec nt ops all B0 φ0 H0 w0 cs0 b out listed [] [] log φ K fr tm a cs w → CRes P B0 φ0 H0 w0 nt b cs0 (lone (on b a (.inRegion ops [] :: k)) cs w) k out := by
    intro listed log φ K fr tm a cs w h
    have hr := h.run
    simp only [List.map_nil, ditems, Option.some.injEq] at hr
    subst hr
    refine ⟨φ, a, cs, w, h.ext, h.rel, ⟨fun s => ?_, h.frel.size, h.frel.defs, h.frel.rnd, h.frel.ctx⟩, h.cst, .one s_region_end⟩
    have := h.frel.tmps s
    simp only at this
    rw [h.pnd s] at this
    exact this
  induction fuel with
  | zero =>
    intro t listed pend rest log φ K fr tm a cs w hG h hd hlen
    have h1 : pend = [] := List.eq_nil_of_length_eq_zero (by omega)
    have h2 : rest = [] := List.eq_nil_of_length_eq_zero (by omega)
    subst h1; subst h2
    exact hend _ _ _ _ _ _ _ _ _ h
  | succ fuel ih =>
    intro t listed pend rest log φ K fr tm a cs w hG h hd hlen
    simp only [Region.linearise.go]
    change CRes P B0 φ0 H0 w0 nt b cs0 (lone (on b a (.inRegion ops (match (Region.ready .any ops listed)[t % (Region.ready .any ops listed).length]? with
      | some i => Region.linearise.go .any ops fuel (t / (Region.ready .any ops listed).length) (listed.setIfInBounds i true) [i]
      | none => [].reverse) :: k)) cs w) k out
    cases hi : (Region.ready .any ops listed)[t % (Region.ready .any ops listed).length]? with
    | none =>
      have hnil : Region.ready .any ops listed = [] := by
        cases hr : Region.ready .any ops listed with
        | nil => rfl
        | cons x xs =>
          rw [hr] at hi
          have hlt : t % (x :: xs).length < (x :: xs).length := Nat.mod_lt _ (by simp)
          simp at hi
          simp at hlt
          omega
      have hun : un pend rest = [] := by
        cases hu : un pend rest with
        | nil => rfl
        | cons x r =>
          have hL := h.lst
          rw [hu] at hL
          have := head_ready hS hL
          rw [hnil] at this; cases this
      have h1 : pend = [] := by unfold un at hun; simpa using (List.append_eq_nil_iff.1 hun).1
      have h2 : rest = [] := by unfold un at hun; exact (List.append_eq_nil_iff.1 hun).2
      subst h1; subst h2
      exact hend _ _ _ _ _ _ _ _ _ h
    | some i =>
      simp only []
      rw [linearise_go_acc, List.reverse_singleton, List.singleton_append]
      have hr : i ∈ Region.ready .any ops listed := List.mem_of_getElem? hi
      generalize t / (Region.ready .any ops listed).length = t'
      obtain ⟨hunl, o0, ho0, _⟩ := mem_ready.1 hr
      have hilt : i < ops.size := (Array.getElem?_eq_some_iff.1 ho0).1
      obtain ⟨x, hx, hxi⟩ := (h.lst.lst i hilt).1 hunl
      subst hxi
      rcases List.mem_append.1 hx with hx | hx
      · -- it waits
        obtain ⟨m, hm, rfl⟩ := List.mem_map.1 hx
        obtain ⟨pre, post, rfl⟩ := List.append_of_mem hm
        obtain ⟨φ', tm', a', w', hle, hst, hinv⟩ := pend_step (k := k) hS hG h hr (Region.linearise.go .any ops fuel t' (listed.setIfInBounds m.d.idx true) [])
        exact CRes.head (.one hst) (ih t' _ _ _ _ _ _ _ _ _ _ _ (hG.mono hle) hinv hd (by simp at hlen ⊢; omega))
      · -- it acts
        cases rest with
        | nil => cases hx
        | cons e r =>
          have heff := hd e r rfl
          have hL := h.lst
          have hex : x = e := by
            rcases List.mem_cons.1 hx with h1 | h1
            · exact h1
            · exfalso
              obtain ⟨r1, r2, rfl⟩ := List.append_of_mem h1
              have hs : un pend (e :: (r1 ++ x :: r2)) = (un pend (e :: r1)) ++ x :: r2 := by simp [un]
              rw [hs] at hL
              have := (ahead_indep hS hL hr e (by simp [un])).2.2
              rw [heff] at this; cases this
          subst hex
          have hmem : x ∈ all := hL.sub.subset (by simp [un])
          obtain ⟨ho, hdo, _⟩ := hS.op _ hmem
          have hah := ahead_indep hS (l1 := pend.map (fun p : PIt => (p.o, p.d))) (l2 := r) (x := x) hL hr
          have hind : ∀ p ∈ pend, Indep p.d.o x.2.o := fun p hp => (hah (p.o, p.d) (List.mem_map.2 ⟨p, hp, rfl⟩)).2.1
          have hmsk : ∀ p ∈ pend, x.2.mask.testBit p.d.idx = false := fun p hp => (hah (p.o, p.d) (List.mem_map.2 ⟨p, hp, rfl⟩)).1
          have hag : Agree x.2.o.reads fr.tmps tm := fun s hs => (h.pnd.same s fun p hp e => (hind p hp).1 s e (List.mem_append_right _ hs)).symm
          have hrun := h.run
          simp only [List.map_cons, ditems] at hrun
          split at hrun
          · rename_i fr' H' hstep
            rw [heff] at hrun
            simp only [if_true] at hrun
            split at hrun
            · rename_i hre
              obtain ⟨v, fr0, hf0, rfl, hstep'⟩ := dstep_congr hstep hag
              rw [hdo] at hstep'
              obtain ⟨φ', a', cs', w', hE, hR', hF', hcs, hst⟩ := step_ok (k := k) (rest := Region.linearise.go .any ops fuel t' (listed.setIfInBounds x.2.idx true) []) hrec h.rel hG h.frel ho hstep'
              have hL' : Lst ops all (un pend r) (listed.setIfInBounds x.2.idx true) := Lst.next hS (l1 := pend.map (fun p : PIt => (p.o, p.d))) hL hr
              have hpnd : PendOK P φ' H' log H0.next (putT tm x.2.o.dst v) pend (fr0.put x.2.o.dst v).tmps := by
                rw [put_tmps, hf0]
                refine (h.pnd.shift (e := x.2.o) (v := v) hind).imp fun p hp t0 hit => ?_
                rcases hit with hi | ⟨i1, i2, i3, i4, i5, i6⟩ | ⟨i1, i2, i3, d', B', mk', i4, i5, i6, i7, i8, i9, i10⟩
                · exact .inl hi
                · refine .inr (.inl ⟨i1, i2, i3, i4, ?_, i6⟩)
                  cases hl : p.d.o.op.looks with
                  | false => exact (dop_quiet i2 i3 i5).2.2.2 hl H'
                  | true =>
                    obtain ⟨l, l1, l2, l3, l4, l5⟩ := i6 hl
                    rcases recheck_spec hre l l1 with h1 | h1
                    · rw [l2, hmsk p hp] at h1; cases h1
                    · rw [l3, l4] at h1
                      unfold quietVal at h1
                      split at h1
                      · rename_i v' H2 hq
                        cases h1
                        have hq' : dop P (ev t0) H' p.d.o.op = some (.val p.v, H2) := by rw [← dop_congr l5]; exact hq
                        obtain ⟨rfl, _⟩ := dop_quiet i2 i3 hq'
                        exact hq'
                      · cases h1
                · have hu := hE.unm d' i10 i8
                  exact .inr (.inr ⟨i1, i2, i3, d', B', mk', i4, i5, i6, by rw [hu.2]; exact i7, hu.1, i9, Nat.lt_of_lt_of_le i10 hE.nxt⟩)
              have hFeq : ({ fr0.put x.2.o.dst v with tmps := putT tm x.2.o.dst v } : DFr) = ({ fr0 with tmps := tm } : DFr).put x.2.o.dst v := by
                rw [put_with]; cases x.2.o.dst <;> rfl
              obtain ⟨pend', rest', log', K', fr', hinv, hun, hd'⟩ := absorb (out := out) hS r pend log H' (fr0.put x.2.o.dst v) (listed := listed.setIfInBounds x.2.idx true) (φ := φ') (tm := putT tm x.2.o.dst v) (a := a') (cs := cs') (w := w')
                { lst := hL', pnd := hpnd, nod := h.nod, bnd := fun p hp y hy => Nat.lt_of_lt_of_le (h.bnd p hp y hy) hE.nxt, run := hrun, rel := hR', ext := h.ext.trans hE, frel := by rw [hFeq, hdo]; exact hdo ▸ hF', cst := h.cst.trans hcs }
              have hlen' : pend'.length + rest'.length ≤ fuel := by
                have := congrArg List.length hun
                simp [un] at this
                simp at hlen
                omega
              exact CRes.head hst (ih t' _ _ _ _ _ _ _ _ _ _ _ (hG.mono hE.le) hinv hd' hlen')
            · cases hrun
          · rename_i v fr' H' hstep
            rw [heff] at hrun
            simp only [if_true, Option.some.injEq] at hrun
            subst hrun
            obtain ⟨hf0, hstep'⟩ := dstep_congr hstep hag
            rw [hdo] at hstep'
            obtain ⟨φ', cs', w', u, todo, hE, hR', hF', hcs, hvu, hst⟩ := step_ok (k := k) (rest := Region.linearise.go .any ops fuel t' (listed.setIfInBounds x.2.idx true) []) hrec h.rel hG h.frel ho hstep'
            refine ⟨φ', a, cs', w', h.ext.trans hE, hR', ⟨fun s => ?_, hF'.size, hF'.defs, hF'.rnd, hF'.ctx⟩, h.cst.trans hcs, u, todo, hvu, hst⟩
            simp only
            rcases poison_get (all.map (·.2)) fr'.tmps s with hp | ⟨hp, hn⟩
            · rw [hp]; exact .bad _
            · rw [hp, hf0, ← h.pnd.same s fun p hp => ?_]
              · exact hF'.tmps s
              · refine hn p.d (List.mem_map.2 ⟨(p.o, p.d), hL.sub.subset ?_, rfl⟩)
                simp only [un, List.mem_append, List.mem_map]
                exact .inl ⟨p, hp, rfl⟩
          · cases hrun
end
end Go.Proofs.YtfmmgggdgpfaaaaGreatDoor.DS
