/- The quiet operations: conversions, interfaces, functions, slices, places, parts. -/
import Derived.Test.YtfmmgggdgpfaaaaGreatDoorDop2
namespace Go.Proofs.YtfmmgggdgpfaaaaGreatDoor.DS
open Go.RowKit (Below)
set_option linter.unusedVariables false
set_option linter.unusedSimpArgs false

section
variable {P : Program} {B0 : Nat} {φ : Phi} {H H' : DH} {w : World} {fr : DFr} {a : Act} {o : Oper} {op : DOp} {x : DNx}

theorem dbound_run {y n : Nat} {v : DV} {u : Value} (h : dbound y v = some n) (hv : VRel φ v u) (c : BoundsCode) : (Instr.sliceBound u y c).run P w = .ok n w ∧ n ≤ y := by
  cases hv <;> simp only [dbound, reduceCtorEq] at h
  split at h
  · rename_i hle
    cases h
    exact ⟨by simp [Instr.sliceBound, asIntOf, hle], by omega⟩
  · cases h

theorem cOpt_rel (hG : GRel P φ) (hT : TRel φ fr.tmps a.tmps) {y : Option Operand} {y' : Option DOpd} (h : cOpt P y = some y') :
    (y' = none ∧ y = none) ∨ ∃ p q, y' = some q ∧ y = some p ∧ VRel φ (fr.eval q) (a.eval p) := by
  cases y with
  | none => simp only [cOpt, Option.some.injEq] at h; exact .inl ⟨h.symm, rfl⟩
  | some p =>
    simp only [cOpt, Option.map_eq_some_iff] at h
    obtain ⟨q, hq, rfl⟩ := h
    exact .inr ⟨p, q, rfl, rfl, opd_rel hG hT hq⟩

theorem dlohi_run (hG : GRel P φ) (hT : TRel φ fr.tmps a.tmps) {lo hi : Option Operand} {lo' hi' : Option DOpd} (h1 : cOpt P lo = some lo') (h2 : cOpt P hi = some hi')
    {n l h : Nat} (hd : dlohi n (lo'.map fr.eval) (hi'.map fr.eval) = some (l, h)) (sl : Bool) (len cap : Nat) (hlen : len = n) (hcap : n ≤ cap) :
    (Instr.sliceBounds sl len cap (lo.map a.eval) (hi.map a.eval) none).run P w = .ok (l, h, cap) w ∧ l ≤ h ∧ h ≤ n := by
  subst hlen
  have key : ∃ hh, (∀ W : World, (match (hi.map a.eval) with | some v => Instr.sliceBound v cap (if sl then .sliceAcap else .sliceAlen) | none => pure len : Sem Nat).run P W = .ok hh W) ∧ hh ≤ len ∧
      (match (match hi'.map fr.eval with | some v => dbound len v | none => some len) with
        | none => none
        | some h => match (match lo'.map fr.eval with | some v => dbound h v | none => some 0) with | some l => some (l, h) | none => none) = some (l, h) ∧
      (match hi'.map fr.eval with | some v => dbound len v | none => some len) = some hh := by
    rcases cOpt_rel hG hT h2 with ⟨rfl, rfl⟩ | ⟨p, q, rfl, rfl, hv⟩
    · exact ⟨len, fun W => rfl, Nat.le_refl _, hd, rfl⟩
    · simp only [dlohi, Option.map_some] at hd ⊢
      cases hb : dbound len (fr.eval q) with
      | none => simp [hb] at hd
      | some hh =>
        have hw := fun W => dbound_run (P := P) (w := W) hb hv (if sl then .sliceAcap else .sliceAlen)
        refine ⟨hh, fun W => ?_, (hw w).2, by rw [hb] at hd; exact hd, rfl⟩
        -- the bound is the capacity
        generalize fr.eval q = vq at *
        generalize a.eval p = up at *
        cases hv <;> simp only [dbound, reduceCtorEq] at hb
        split at hb
        · rename_i k n hle
          cases hb
          have : 0 ≤ n ∧ n ≤ (cap : Int) := by omega
          simp [Instr.sliceBound, asIntOf, this]
        · cases hb
  obtain ⟨hh, hrun, hle, hd', he⟩ := key
  rw [he] at hd'
  simp only at hd'
  rcases cOpt_rel hG hT h1 with ⟨rfl, rfl⟩ | ⟨p, q, rfl, rfl, hv⟩
  · simp only [Option.map_none, Option.some.injEq, Prod.mk.injEq] at hd'
    obtain ⟨rfl, rfl⟩ := hd'
    refine ⟨?_, Nat.zero_le _, hle⟩
    simp only [Instr.sliceBounds, Option.map_none]
    cases hh' : (hi.map a.eval) with
    | none => rw [hh'] at hrun; have := hrun w; simp at this; subst this; simp
    | some v => rw [hh'] at hrun; simp [hrun]
  · simp only [Option.map_some] at hd'
    cases hb : dbound hh (fr.eval q) with
    | none => simp [hb] at hd'
    | some ll =>
      rw [hb] at hd'
      simp only [Option.some.injEq, Prod.mk.injEq] at hd'
      obtain ⟨rfl, rfl⟩ := hd'
      have hw := fun W => dbound_run (P := P) (w := W) hb hv .sliceB
      refine ⟨?_, (hw w).2, hle⟩
      simp only [Instr.sliceBounds, Option.map_some]
      cases hh' : (hi.map a.eval) with
      | none => rw [hh'] at hrun; have := hrun w; simp at this; subst this; simp [(hw _).1]
      | some v => rw [hh'] at hrun; simp [hrun, (hw _).1]


theorem q_convInt (hR : Rel P B0 φ H w) (hG : GRel P φ) (hT : TRel φ fr.tmps a.tmps) (s d t' : TypeId) (k0 k : IntKind) (y : Operand) (ho : o.op = .convert s d y) (h1 : P.underlying s = some (.int k0)) (h2 : P.underlying d = some (.int k))
    {y' : DOpd} (hy : cOpd P y = some y') (hd : dop P fr.eval H (.convInt k y') = some (x, H')) : QRes P φ w H x H' ((execOp a.eval o).run P w) := by
  have _ := hR
  have hp := opd_rel hG hT hy
  simp only [dop, dop_convInt] at hd
  simp only [execOp, ho]
  generalize fr.eval y' = vy at *
  generalize a.eval y = uy at *
  cases hp <;> simp only [reduceCtorEq, Option.some.injEq, Prod.mk.injEq] at hd
  obtain ⟨rfl, rfl⟩ := hd
  rename_i k1 n
  exact q_ofRun (u := .int k (k.wrap n)) (by simp [convert, run_underlying h1, run_underlying h2, Conv.intToInt]) (by rw [dwrap_eq]; exact .int _ _)

theorem q_convStr (hR : Rel P B0 φ H w) (hG : GRel P φ) (hT : TRel φ fr.tmps a.tmps) (s d : TypeId) (y : Operand) (ho : o.op = .convert s d y) (h1 : P.underlying s = some .string) (h2 : P.underlying d = some .string)
    {y' : DOpd} (hy : cOpd P y = some y') (hd : dop P fr.eval H (.convStr y') = some (x, H')) : QRes P φ w H x H' ((execOp a.eval o).run P w) := by
  have _ := hR
  have hp := opd_rel hG hT hy
  simp only [dop, dop_convStr] at hd
  simp only [execOp, ho]
  generalize fr.eval y' = vy at *
  generalize a.eval y = uy at *
  cases hp <;> simp only [reduceCtorEq, Option.some.injEq, Prod.mk.injEq] at hd
  obtain ⟨rfl, rfl⟩ := hd
  rename_i s0
  exact q_ofRun (u := .string s0) (by simp [convert, run_underlying h1, run_underlying h2]) (.str _)

theorem q_mkIface (hR : Rel P B0 φ H w) (hG : GRel P φ) (hT : TRel φ fr.tmps a.tmps) (t : TypeId) (y : Operand) (ho : o.op = .makeInterface t y) (hc : cOp P o = some op) (hd : dop P fr.eval H op = some (x, H')) :
    QRes P φ w H x H' ((execOp a.eval o).run P w) := by
  have _ := hR
  simp only [cOp, ho] at hc
  split at hc
  · cases hc
  · cases hc
  · rename_i d h1 hu
    obtain ⟨y', hy, rfl⟩ := Option.map_eq_some_iff.1 hc
    have hp := opd_rel hG hT hy
    simp only [dop, dop_mkIface, Option.some.injEq, Prod.mk.injEq] at hd
    obtain ⟨rfl, rfl⟩ := hd
    simp only [execOp, ho]
    refine q_ofRun (u := .iface t (a.eval y)) ?_ (.iface _ _ _ hp)
    simp only [Instr.makeInterface, Sem.run_bind, run_underlying hu, Result.andThen_ok]
    cases d <;> first | rfl | (exact absurd rfl (h1 _))

theorem q_mkFunc (hR : Rel P B0 φ H w) (hG : GRel P φ) (hT : TRel φ fr.tmps a.tmps) (f : FuncId) (first cap : Array Operand) (ho : o.op = .makeFunc (.func f) first cap) (hc : cOp P o = some op) (hd : dop P fr.eval H op = some (x, H')) :
    QRes P φ w H x H' ((execOp a.eval o).run P w) := by
  have _ := hR
  simp only [cOp, ho, Option.pure_def, Option.bind_eq_bind, Option.bind_eq_some_iff, Option.some.injEq] at hc
  obtain ⟨f', hf, c', hc', rfl⟩ := hc
  simp only [dop, dop_mkFunc, Option.some.injEq, Prod.mk.injEq] at hd
  obtain ⟨rfl, rfl⟩ := hd
  simp only [execOp, ho]
  exact q_ofRun (u := .func (.func f) (first.map a.eval) (cap.map a.eval)) (by simp [Instr.makeFunc]) (.of_func (opds_rel hG hT hf) (opds_rel hG hT hc'))

theorem q_extract (hR : Rel P B0 φ H w) (hG : GRel P φ) (hT : TRel φ fr.tmps a.tmps) (y : Operand) (k : Nat) (ho : o.op = .extract y k) (hc : cOp P o = some op) (hd : dop P fr.eval H op = some (x, H')) :
    QRes P φ w H x H' ((execOp a.eval o).run P w) := by
  have _ := hR
  simp only [cOp, ho, Option.pure_def, Option.bind_eq_bind, Option.bind_eq_some_iff, Option.some.injEq] at hc
  obtain ⟨y', hy, rfl⟩ := hc
  have hp := opd_rel hG hT hy
  simp only [dop, dop_extract] at hd
  simp only [execOp, ho]
  generalize fr.eval y' = vy at *
  generalize a.eval y = uy at *
  cases vy <;> simp only [reduceCtorEq] at hd
  obtain ⟨cs', rfl, hl⟩ := hp.tuple_iff
  simp only [Option.map_eq_some_iff, Prod.mk.injEq, nth_eq] at hd
  obtain ⟨v, hv, rfl, rfl⟩ := hd
  obtain ⟨u, hu, hvu⟩ := hl.get hv
  have hu' : cs'[k]? = some u := by simpa using hu
  exact q_ofRun (by simp [Instr.extract, hu']) hvu

theorem q_addr (hR : Rel P B0 φ H w) (hG : GRel P φ) (hT : TRel φ fr.tmps a.tmps) (s : TypeId) (y : Operand) (f : Nat) (ho : o.op = .fieldAddr s y f) (hc : cOp P o = some op) (hd : dop P fr.eval H op = some (x, H')) :
    QRes P φ w H x H' ((execOp a.eval o).run P w) := by
  have _ := hR
  simp only [cOp, ho] at hc
  split at hc
  · rename_i fields hu
    split at hc
    · rename_i fd hf
      split at hc
      · rename_i n hn
        split at hc
        · cases hc
        · rename_i hn0
          obtain ⟨y', hy, rfl⟩ := Option.map_eq_some_iff.1 hc
          have hp := opd_rel hG hT hy
          simp only [dop, dop_addr] at hd
          simp only [execOp, ho]
          generalize fr.eval y' = vy at *
          generalize a.eval y = uy at *
          cases hp <;> simp only [reduceCtorEq, Option.some.injEq, Prod.mk.injEq] at hd
          obtain ⟨rfl, rfl⟩ := hd
          rename_i d off i hi
          refine q_ofRun (u := .pointer (some ⟨i.b, i.base + (off + fd.offset), none⟩)) ?_ (.ptr _ _ _ hi)
          simp [Instr.fieldAt, run_underlying hu, hf, Instr.sureAddr, fieldPlace, sizeT_run hn, hn0, Addr.add_lit, Nat.add_assoc]
      · cases hc
    · cases hc
  · cases hc

theorem part_run (hR : Rel P B0 φ H w) (hG : GRel P φ) (hT : TRel φ fr.tmps a.tmps) {t : TypeId} {agg : Bool} {n off : Nat} (hagg : isAggT P t = some agg) (hn : sizeT P t = some n) {cs : List DV} {cs' : Array Value} (hl : LRel φ cs cs'.toList) {v : DV}
    (h : (if agg then (if off + n ≤ cs.length then some (DV.agg ((cs.drop off).take n)) else none) else nth cs off) = some v) :
    ∃ u, (part t cs' off).run P w = .ok u w ∧ VRel φ v u := by
  have _ := hR
  have _ := hG
  have _ := hT
  cases agg with
  | true =>
    simp only [if_true] at h
    split at h
    · rename_i hle
      cases h
      refine ⟨.agg (cs'.extract off (off + n)), by simp [part, isAggT_run hagg, sizeT_run hn], .of_agg ?_⟩
      have := (hl.drop off).take n
      simpa [List.drop_take] using this
    · cases h
  | false =>
    simp only [Bool.false_eq_true, if_false] at h
    rw [nth_eq] at h
    obtain ⟨u, hu, hv⟩ := hl.get h
    have hu' : cs'[off]? = some u := by simpa using hu
    exact ⟨u, by simp [part, isAggT_run hagg, hu'], hv⟩

theorem q_field (hR : Rel P B0 φ H w) (hG : GRel P φ) (hT : TRel φ fr.tmps a.tmps) (t : TypeId) (y : Operand) (f : Nat) (ho : o.op = .field t y f) (hc : cOp P o = some op) (hd : dop P fr.eval H op = some (x, H')) :
    QRes P φ w H x H' ((execOp a.eval o).run P w) := by
  simp only [cOp, ho] at hc
  split at hc
  · rename_i fields hu
    split at hc
    · rename_i fd hf
      simp only [Option.pure_def, Option.bind_eq_bind, Option.bind_eq_some_iff, Option.some.injEq] at hc
      obtain ⟨agg, hagg, n, hn, y', hy, rfl⟩ := hc
      have hp := opd_rel hG hT hy
      simp only [dop, dop_field] at hd
      simp only [execOp, ho]
      generalize fr.eval y' = vy at *
      generalize a.eval y = uy at *
      cases vy <;> simp only [reduceCtorEq] at hd
      obtain ⟨cs', rfl, hl⟩ := hp.agg_iff
      rename_i cs
      have h' : ∃ v, (if agg then (if fd.offset + n ≤ cs.length then some (DV.agg ((cs.drop fd.offset).take n)) else none) else nth cs fd.offset) = some v ∧ x = .val v ∧ H' = H := by
        cases agg with
        | true =>
          simp only [if_true] at hd ⊢
          split at hd
          · rename_i hle; rw [if_pos hle]; cases hd; exact ⟨_, rfl, rfl, rfl⟩
          · cases hd
        | false =>
          simp only [Bool.false_eq_true, if_false, Option.map_eq_some_iff, Prod.mk.injEq] at hd ⊢
          obtain ⟨v, hv, rfl, rfl⟩ := hd
          exact ⟨v, hv, rfl, rfl⟩
      obtain ⟨v, hv, rfl, rfl⟩ := h'
      obtain ⟨u, hu', hvu⟩ := part_run hR hG hT hagg hn hl hv
      exact q_ofRun (by simp [Instr.field, run_underlying hu, hf, asAgg, hu']) hvu
    · cases hc
  · cases hc

theorem q_sliceStr (hR : Rel P B0 φ H w) (hG : GRel P φ) (hT : TRel φ fr.tmps a.tmps) (t : TypeId) (y : Operand) (lo hi : Option Operand) {lo' hi' : Option DOpd} {y' : DOpd} (ho : o.op = .slice t y lo hi none) (hu : P.underlying t = some .string)
    (hy : cOpd P y = some y') (h1 : cOpt P lo = some lo') (h2 : cOpt P hi = some hi') (hd : dop P fr.eval H (.sliceStr y' lo' hi') = some (x, H')) :
    QRes P φ w H x H' ((execOp a.eval o).run P w) := by
  have _ := hR
  have hp := opd_rel hG hT hy
  simp only [dop, dop_sliceStr] at hd
  simp only [execOp, ho]
  generalize fr.eval y' = vy at *
  generalize a.eval y = uy at *
  cases hp <;> simp only [reduceCtorEq, Option.map_eq_some_iff, Prod.mk.injEq] at hd
  obtain ⟨⟨l, h⟩, hlh, rfl, rfl⟩ := hd
  rename_i s
  obtain ⟨hrun, hle, hle'⟩ := dlohi_run (w := w) hG hT h1 h2 hlh false s.size s.size rfl (Nat.le_refl _)
  refine q_ofRun (u := .string (s.extract l h)) ?_ ?_
  · simp [Instr.sliceAt, Instr.slice, run_underlying hu, hrun]
  · have := VRel.str (φ := φ) (s.extract l h)
    rwa [show (s.extract l h).data.toList = (s.data.toList.drop l).take (h - l) from by
      rw [ByteArray.data_extract]; simp [List.drop_take]] at this

theorem q_sliceSl (hR : Rel P B0 φ H w) (hG : GRel P φ) (hT : TRel φ fr.tmps a.tmps) (t e : TypeId) (esz : Nat) (y : Operand) (lo hi : Option Operand) {lo' hi' : Option DOpd} {y' : DOpd} (ho : o.op = .slice t y lo hi none) (hu : P.underlying t = some (.slice e))
    (hs : sizeT P e = some esz) (hy : cOpd P y = some y') (h1 : cOpt P lo = some lo') (h2 : cOpt P hi = some hi') (hd : dop P fr.eval H (.sliceSl esz y' lo' hi') = some (x, H')) :
    QRes P φ w H x H' ((execOp a.eval o).run P w) := by
  have _ := hR
  have hp := opd_rel hG hT hy
  simp only [dop, dop_sliceSl] at hd
  simp only [execOp, ho]
  generalize fr.eval y' = vy at *
  generalize a.eval y = uy at *
  cases hp <;> simp only [reduceCtorEq] at hd
  · simp only [Option.map_eq_some_iff, Prod.mk.injEq] at hd
    obtain ⟨⟨l, h⟩, hlh, rfl, rfl⟩ := hd
    obtain ⟨hrun, hle, hle'⟩ := dlohi_run (w := w) hG hT h1 h2 hlh true 0 0 rfl (Nat.le_refl _)
    obtain rfl : h = 0 := by omega
    obtain rfl : l = 0 := by omega
    exact q_ofRun (u := .slice none 0 0) (by simp [Instr.sliceAt, Instr.slice, run_underlying hu, hrun, sizeT_run hs]) .nilSlice
  · rename_i d off len e' i o' cap hi' hl' ho' hcs
    split at hd
    · rename_i hee
      subst hee
      simp only [Option.map_eq_some_iff, Prod.mk.injEq] at hd
      obtain ⟨⟨l, h⟩, hlh, rfl, rfl⟩ := hd
      obtain ⟨hrun, hle, hle'⟩ := dlohi_run (w := w) hG hT h1 h2 hlh true len cap rfl hl'
      have hcl : i.base + (off + l * e') + (cap - l) * e' ≤ i.csize := by
        have : l * e' + (cap - l) * e' = cap * e' := by rw [← Nat.add_mul]; congr 1; omega
        omega
      by_cases hm : cap = l
      · refine q_ofRun (u := .slice (some ⟨i.b, o', none⟩) (h - l) (cap - l)) ?_ (.slice d _ _ e' i o' (cap - l) hi' (by omega) (.inr ⟨by omega, by omega⟩) hcl)
        simp only [Instr.sliceAt, Sem.run_bind, run_underlying hu, Result.andThen_ok, Instr.slice, Option.map_none, hrun, sizeT_run hs, Sem.run_pure]
        rw [if_pos hm]
      · have hoo : o' = i.base + off := by rcases ho' with h' | ⟨h', h''⟩ <;> omega
        refine q_ofRun (u := .slice (some ⟨i.b, i.base + (off + l * e'), none⟩) (h - l) (cap - l)) ?_ (.slice d _ _ e' i _ (cap - l) hi' (by omega) (.inl rfl) hcl)
        simp [Instr.sliceAt, Instr.slice, run_underlying hu, hrun, sizeT_run hs, hm, Addr.add_lit, hoo, Nat.add_assoc]
    · cases hd

theorem q_idxStr (hR : Rel P B0 φ H w) (hG : GRel P φ) (hT : TRel φ fr.tmps a.tmps) (t : TypeId) (y z : Operand) {y' z' : DOpd} (ho : o.op = .index t y z) (hu : P.underlying t = some .string) (hy : cOpd P y = some y') (hz : cOpd P z = some z')
    (hd : dop P fr.eval H (.idxStr y' z') = some (x, H')) : QRes P φ w H x H' ((execOp a.eval o).run P w) := by
  have _ := hR
  have hp := opd_rel hG hT hy
  have hq := opd_rel hG hT hz
  simp only [dop, dop_idxStr] at hd
  simp only [execOp, ho]
  generalize fr.eval y' = vy at *
  generalize a.eval y = uy at *
  generalize fr.eval z' = vz at *
  generalize a.eval z = uz at *
  cases hp <;> (try (simp only [reduceCtorEq] at hd)) <;> cases hq <;> (try (simp only [reduceCtorEq] at hd))
  rename_i s k n
  split at hd
  · rename_i h0
    simp only [Option.map_eq_some_iff, Prod.mk.injEq, nth_eq] at hd
    obtain ⟨b, hb, rfl, rfl⟩ := hd
    have hb' : s[n.toNat]? = some b := by
      rw [← hb]
      simp [getElem?_def]
      rfl
    exact q_ofRun (u := .int .u8 b.toNat) (by simp [Instr.index, asIntOf, run_underlying hu, h0, hb']) (.int _ _)
  · cases hd

theorem q_idxSl (hR : Rel P B0 φ H w) (hG : GRel P φ) (hT : TRel φ fr.tmps a.tmps) (t e : TypeId) (esz : Nat) (y z : Operand) {y' z' : DOpd} (ho : o.op = .indexAddr t y z) (hu : P.underlying t = some (.slice e)) (hs : sizeT P e = some esz)
    (hy : cOpd P y = some y') (hz : cOpd P z = some z') (hd : dop P fr.eval H (.idxSl esz y' z') = some (x, H')) : QRes P φ w H x H' ((execOp a.eval o).run P w) := by
  have _ := hR
  have hp := opd_rel hG hT hy
  have hq := opd_rel hG hT hz
  simp only [dop, dop_idxSl] at hd
  simp only [execOp, ho]
  generalize fr.eval y' = vy at *
  generalize a.eval y = uy at *
  generalize fr.eval z' = vz at *
  generalize a.eval z = uz at *
  cases hp <;> (try (simp only [reduceCtorEq] at hd)) <;> cases hq <;> (try (simp only [reduceCtorEq] at hd))
  rename_i d off len e' i o' cap hi hl ho' hcs k n
  split at hd
  · rename_i hh
    obtain ⟨rfl, h0, h1⟩ := hh
    cases hd
    have hoo : o' = i.base + off := by rcases ho' with h' | ⟨h', h''⟩ <;> omega
    refine q_ofRun (u := .pointer (some ⟨i.b, i.base + (off + n.toNat * e'), none⟩)) ?_ (.ptr _ _ _ hi)
    simp [Instr.indexAt, asIntOf, run_underlying hu, h0, h1, sizeT_run hs, Addr.add_lit, hoo, Nat.add_assoc]
  · cases hd

theorem q_idxArrP (hR : Rel P B0 φ H w) (hG : GRel P φ) (hT : TRel φ fr.tmps a.tmps) (t e : TypeId) (len esz : Nat) (y z : Operand) {y' z' : DOpd} (ho : o.op = .indexAddr t y z) (hu : P.underlying t = some (.array len e)) (hs : sizeT P e = some esz)
    (hy : cOpd P y = some y') (hz : cOpd P z = some z') (hd : dop P fr.eval H (.idxArrP len esz y' z') = some (x, H')) : QRes P φ w H x H' ((execOp a.eval o).run P w) := by
  have _ := hR
  have hp := opd_rel hG hT hy
  have hq := opd_rel hG hT hz
  simp only [dop, dop_idxArrP] at hd
  simp only [execOp, ho]
  generalize fr.eval y' = vy at *
  generalize a.eval y = uy at *
  generalize fr.eval z' = vz at *
  generalize a.eval z = uz at *
  cases hp <;> (try (simp only [reduceCtorEq] at hd)) <;> cases hq <;> (try (simp only [reduceCtorEq] at hd))
  rename_i d off i hi k n
  split at hd
  · rename_i hh
    cases hd
    refine q_ofRun (u := .pointer (some ⟨i.b, i.base + (off + n.toNat * esz), none⟩)) ?_ (.ptr _ _ _ hi)
    simp [Instr.indexAt, asIntOf, run_underlying hu, hh.1, hh.2, Instr.sureAddr, sizeT_run hs, Addr.add_lit, Nat.add_assoc]
  · cases hd

theorem q_idxArr (hR : Rel P B0 φ H w) (hG : GRel P φ) (hT : TRel φ fr.tmps a.tmps) (t e : TypeId) (agg : Bool) (len esz : Nat) (y z : Operand) {y' z' : DOpd} (ho : o.op = .index t y z) (hu : P.underlying t = some (.array len e)) (ha : isAggT P e = some agg)
    (hs : sizeT P e = some esz) (hy : cOpd P y = some y') (hz : cOpd P z = some z') (hd : dop P fr.eval H (.idxArr agg len esz y' z') = some (x, H')) :
    QRes P φ w H x H' ((execOp a.eval o).run P w) := by
  have hp := opd_rel hG hT hy
  have hq := opd_rel hG hT hz
  simp only [dop, dop_idxArr] at hd
  simp only [execOp, ho]
  generalize fr.eval y' = vy at *
  generalize a.eval y = uy at *
  generalize fr.eval z' = vz at *
  generalize a.eval z = uz at *
  cases vy <;> (try (simp only [reduceCtorEq] at hd))
  obtain ⟨cs', rfl, hl⟩ := hp.agg_iff
  cases hq <;> (try (simp only [reduceCtorEq] at hd))
  rename_i cs k n
  split at hd
  · rename_i hh
    have h' : ∃ v, (if agg then (if n.toNat * esz + esz ≤ cs.length then some (DV.agg ((cs.drop (n.toNat * esz)).take esz)) else none) else nth cs (n.toNat * esz)) = some v ∧ x = .val v ∧ H' = H := by
      cases agg with
      | true =>
        simp only [if_true] at hd ⊢
        split at hd
        · rename_i hle; rw [if_pos hle]; cases hd; exact ⟨_, rfl, rfl, rfl⟩
        · cases hd
      | false =>
        simp only [Bool.false_eq_true, if_false, Option.map_eq_some_iff, Prod.mk.injEq] at hd ⊢
        obtain ⟨v, hv, rfl, rfl⟩ := hd
        exact ⟨v, hv, rfl, rfl⟩
    obtain ⟨v, hv, rfl, rfl⟩ := h'
    obtain ⟨u, hu', hvu⟩ := part_run hR hG hT ha hs hl hv
    exact q_ofRun (by simp [Instr.index, asIntOf, run_underlying hu, hh.1, hh.2, sizeT_run hs, hu']) hvu
  · cases hd
end
end Go.Proofs.YtfmmgggdgpfaaaaGreatDoor.DS
