/- The quiet operations, the last ones. -/
import Derived.Test.YtfmmgggdgpfaaaaGreatDoorDop5
namespace Go.Proofs.YtfmmgggdgpfaaaaGreatDoor.DS
open Go.RowKit (Below)
set_option linter.unusedVariables false
set_option linter.unusedSimpArgs false

section
variable {P : Program} {B0 : Nat} {φ : Phi} {H H' : DH} {w : World} {fr : DFr} {a : Act} {o : Oper} {op : DOp} {x : DNx}

theorem cvCells_zero {t : TypeId} {cs : List DV} (h : cvCells P t = some cs) : ∃ i z, P.info? t = some i ∧ i.zero = some z ∧ LRel φ cs z.cells.toList := by
  unfold cvCells cvZero at h
  cases hi : P.info? t with
  | none => simp [hi] at h
  | some i =>
    cases hz : i.zero with
    | none => simp [hi, hz] at h
    | some z =>
      simp [hi, hz] at h
      cases hc : cv 3 z with
      | none => simp [hc] at h
      | some v =>
        simp [hc] at h
        exact ⟨i, z, rfl, hz, (cv_rel φ 3 z v hc).cells h⟩

theorem cParts_rel (hG : GRel P φ) (hT : TRel φ fr.tmps a.tmps) {place place' : Nat → Option (Nat × Nat)} (hpl : ∀ i q, place i = some q → place' i = some q)
    {parts : Array (Nat × Operand)} {l : List ((Nat × Nat) × DOpd)} (h : cParts P place parts = some l) :
    (l.map fun p => (p.1, fr.eval p.2)).length = (parts.map fun p => (p.1, a.eval p.2)).toList.length ∧
    ∀ (j : Nat) (p : (Nat × Nat) × DV) (q : Nat × Value), (l.map fun p => (p.1, fr.eval p.2))[j]? = some p → (parts.map fun p => (p.1, a.eval p.2)).toList[j]? = some q → place' q.1 = some p.1 ∧ VRel φ p.2 q.2 := by
  have hm := mapM_opt _ _ _ h
  refine ⟨by simp [hm.1], fun j p q h1 h2 => ?_⟩
  rw [List.getElem?_map] at h1
  obtain ⟨p0, hp0, rfl⟩ := Option.map_eq_some_iff.1 h1
  rw [Array.toList_map, List.getElem?_map] at h2
  obtain ⟨q0, hq0, rfl⟩ := Option.map_eq_some_iff.1 h2
  have hx := hm.2 j q0 p0 hq0 hp0
  split at hx
  · rename_i r y hr hy
    cases hx
    exact ⟨hpl _ _ hr, opd_rel hG hT hy⟩
  · cases hx


theorem q_build (hR : Rel P B0 φ H w) (hG : GRel P φ) (hT : TRel φ fr.tmps a.tmps) (t : TypeId) (parts : Array (Nat × Operand)) (ho : o.op = .build t parts) (hc : cOp P o = some op) (hd : dop P fr.eval H op = some (x, H')) :
    QRes P φ w H x H' ((execOp a.eval o).run P w) := by
  have _ := hR
  have main : ∀ (zero : List DV) (l : List ((Nat × Nat) × DOpd)), op = .build zero l → (∃ i z place, P.info? t = some i ∧ i.zero = some z ∧ LRel φ zero z.cells.toList ∧
      (∀ cells, Instr.fill place z.cells (parts.map fun p => (p.1, a.eval p.2)).toList = some cells → P.built t (parts.map fun p => (p.1, a.eval p.2)).toList = some cells) ∧
      (l.map fun p => (p.1, fr.eval p.2)).length = (parts.map fun p => (p.1, a.eval p.2)).toList.length ∧
      ∀ (j : Nat) (p : (Nat × Nat) × DV) (q : Nat × Value), (l.map fun p => (p.1, fr.eval p.2))[j]? = some p → (parts.map fun p => (p.1, a.eval p.2)).toList[j]? = some q → place q.1 = some p.1 ∧ VRel φ p.2 q.2) →
      QRes P φ w H x H' ((execOp a.eval o).run P w) := by
    rintro zero l rfl ⟨i, z, place, hi, hz, hzr, hb, hl, hp⟩
    simp only [dop, dop_build, Option.map_eq_some_iff, Prod.mk.injEq] at hd
    obtain ⟨cs, hcs, rfl, rfl⟩ := hd
    obtain ⟨cells', hf, hr⟩ := fill_rel place _ _ _ _ z.cells hl hp hzr hcs
    simp only [execOp, ho]
    exact q_ofRun (run_build w t _ cells' (hb _ hf)) (.of_agg hr)
  simp only [cOp, ho] at hc
  split at hc
  · rename_i fields hu
    split at hc
    · rename_i hall
      simp only [Option.pure_def, Option.bind_eq_bind, Option.bind_eq_some_iff, Option.some.injEq] at hc
      obtain ⟨zero, hzero, l, hl, rfl⟩ := hc
      obtain ⟨i, z, hi, hz, hzr⟩ := cvCells_zero (φ := φ) hzero
      have hplaces : ∃ places, fields.toList.mapM (fun (f : Field) => (P.info? f.type).map fun i => (f.offset, i.size)) = some places ∧
          ∀ (k : Nat) (q : Nat × Nat), ((fields[k]?).bind fun (f : Field) => (sizeT P f.type).map fun s => (f.offset, s)) = some q → places.toArray[k]? = some q := by
        have hgen : ∀ (fs : List Field), (fs.all fun (f : Field) => (P.info? f.type).isSome) = true → ∃ places, fs.mapM (fun (f : Field) => (P.info? f.type).map fun i => (f.offset, i.size)) = some places ∧
            ∀ (k : Nat) (q : Nat × Nat), ((fs[k]?).bind fun (f : Field) => (sizeT P f.type).map fun s => (f.offset, s)) = some q → places[k]? = some q := by
          intro fs
          induction fs with
          | nil => intro _; exact ⟨[], rfl, fun k q h => by simp at h⟩
          | cons f fs ih =>
            intro hall
            simp only [List.all_cons, Bool.and_eq_true] at hall
            obtain ⟨pl, h1, h2⟩ := ih hall.2
            obtain ⟨fi, hfi⟩ := Option.isSome_iff_exists.1 hall.1
            refine ⟨(f.offset, fi.size) :: pl, by simp [hfi, h1], fun k q h => ?_⟩
            cases k with
            | zero => simpa [sizeT, hfi] using h
            | succ k => exact h2 k q (by simpa using h)
        obtain ⟨pl, h1, h2⟩ := hgen fields.toList hall
        exact ⟨pl, h1, fun k q h => by simpa using h2 k q (by simpa using h)⟩
      obtain ⟨places, hpm, hpk⟩ := hplaces
      obtain ⟨hlen, hrel⟩ := cParts_rel (place' := fun k => places.toArray[k]?) hG hT hpk hl
      exact main zero l rfl ⟨i, z, fun k => places.toArray[k]?, hi, hz, hzr, fun cells hf => by simp only [Program.built, hi, hu, hz, hpm]; exact hf, hlen, hrel⟩
    · cases hc
  · rename_i n e hu
    simp only [Option.pure_def, Option.bind_eq_bind, Option.bind_eq_some_iff, Option.some.injEq] at hc
    obtain ⟨s, hs, zero, hzero, l, hl, rfl⟩ := hc
    obtain ⟨i, z, hi, hz, hzr⟩ := cvCells_zero (φ := φ) hzero
    obtain ⟨ei, hei, rfl⟩ := Option.map_eq_some_iff.1 hs
    obtain ⟨hlen, hrel⟩ := cParts_rel (place' := fun i => some (i * ei.size, ei.size)) hG hT (fun i q h => h) hl
    exact main zero l rfl ⟨i, z, fun i => some (i * ei.size, ei.size), hi, hz, hzr, fun cells hf => by simp only [Program.built, hi, hu, hz, hei]; exact hf, hlen, hrel⟩
  · cases hc

theorem q_runeStr (hR : Rel P B0 φ H w) (hG : GRel P φ) (hT : TRel φ fr.tmps a.tmps) (s d : TypeId) (k0 : IntKind) (y : Operand) {y' : DOpd} (ho : o.op = .convert s d y) (h1 : P.underlying s = some (.int k0)) (h2 : P.underlying d = some .string)
    (hy : cOpd P y = some y') (hd : dop P fr.eval H (.runeStr y') = some (x, H')) : QRes P φ w H x H' ((execOp a.eval o).run P w) := by
  have _ := hR
  have hp := opd_rel hG hT hy
  simp only [dop, dop_runeStr] at hd
  simp only [execOp, ho]
  generalize fr.eval y' = vy at *
  generalize a.eval y = uy at *
  cases hp <;> (try (simp only [reduceCtorEq] at hd))
  rename_i k n
  split at hd
  · rename_i hn
    cases hd
    have hv : Utf8.encode n = ⟨#[UInt8.ofNat n.toNat]⟩ := by
      have hvalid : Utf8.valid n = true := by
        unfold Utf8.valid
        simp
        omega
      have h80 : n.toNat < 128 := by omega
      simp [Utf8.encode, hvalid, h80]
    refine q_ofRun (u := .string ⟨#[UInt8.ofNat n.toNat]⟩) (by simp [convert, run_underlying h1, run_underlying h2, Conv.intToString, hv]) ?_
    exact .str ⟨#[UInt8.ofNat n.toNat]⟩
  · cases hd

theorem q_toRaw (hR : Rel P B0 φ H w) (hG : GRel P φ) (hT : TRel φ fr.tmps a.tmps) (s d t : TypeId) (n : Nat) (y : Operand) {y' : DOpd} (ho : o.op = .convert s d y) (h1 : P.underlying s = some (.pointer t)) (h2 : P.underlying d = some .unsafePointer)
    (hn : sizeT P t = some n) (hn0 : n ≠ 0) (hy : cOpd P y = some y') (hd : dop P fr.eval H (.toRaw y') = some (x, H')) : QRes P φ w H x H' ((execOp a.eval o).run P w) := by
  have hp := opd_rel hG hT hy
  simp only [dop, dop_toRaw] at hd
  simp only [execOp, ho]
  generalize fr.eval y' = vy at *
  generalize a.eval y = uy at *
  have hp' := hp
  cases hp <;> (try (simp only [reduceCtorEq] at hd))
  rename_i dd off i hi
  split at hd
  · rename_i cs hrow
    split at hd
    · rename_i hlt
      cases hd
      obtain ⟨u, hu, _⟩ := row_cell hR hi hrow (List.getElem?_eq_getElem hlt)
      refine q_ofRun (run_convert_to_unsafe h1 h2 ?_ hu) hp'
      obtain ⟨ti, hti, rfl⟩ := Option.map_eq_some_iff.1 hn
      simp [hti, hn0]
    · cases hd
  · cases hd

theorem q_ofRaw (hR : Rel P B0 φ H w) (hG : GRel P φ) (hT : TRel φ fr.tmps a.tmps) (s d u : TypeId) (n : Nat) (y : Operand) {y' : DOpd} (ho : o.op = .convert s d y) (h1 : P.underlying s = some .unsafePointer) (h2 : P.underlying d = some (.pointer u))
    (hn : sizeT P u = some n) (hy : cOpd P y = some y') (hd : dop P fr.eval H (.ofRaw u y') = some (x, H')) : QRes P φ w H x H' ((execOp a.eval o).run P w) := by
  have hp := opd_rel hG hT hy
  simp only [dop, dop_ofRaw] at hd
  simp only [execOp, ho]
  generalize fr.eval y' = vy at *
  generalize a.eval y = uy at *
  have hp' := hp
  cases hp <;> (try (simp only [reduceCtorEq] at hd))
  rename_i dd off i hi
  split at hd
  · rename_i own cs e frz mk hg
    split at hd
    · rename_i hlies
      cases hd
      obtain ⟨ob, hob, c, lo, hib, rfl, hsz, _, hex, _⟩ := hR.blk dd i _ hi hg
      obtain ⟨hb0, hl⟩ := hex rfl
      obtain ⟨ti, hti, rfl⟩ := Option.map_eq_some_iff.1 hn
      refine q_ofRun (Lib.run_from_unsafe (e := e) (cells := cs.length) _ _ h1 h2 hti ?_ ?_) hp'
      · simp [World.shape?, hob, hsz, hl]
      · simpa [hb0] using hlies
    · cases hd
  · cases hd

theorem q_sliceArr (hR : Rel P B0 φ H w) (hG : GRel P φ) (hT : TRel φ fr.tmps a.tmps) (t e : TypeId) (n esz : Nat) (y : Operand) (lo hi : Option Operand) {lo' hi' : Option DOpd} {y' : DOpd} (ho : o.op = .slice t y lo hi none) (hu : P.underlying t = some (.array n e))
    (hs : sizeT P e = some esz) (hy : cOpd P y = some y') (h1 : cOpt P lo = some lo') (h2 : cOpt P hi = some hi') (hd : dop P fr.eval H (.sliceArr n esz y' lo' hi') = some (x, H')) :
    QRes P φ w H x H' ((execOp a.eval o).run P w) := by
  have hp := opd_rel hG hT hy
  simp only [dop, dop_sliceArr] at hd
  simp only [execOp, ho]
  generalize fr.eval y' = vy at *
  generalize a.eval y = uy at *
  cases hp <;> (try (simp only [reduceCtorEq] at hd))
  rename_i d off i hi0
  split at hd
  · rename_i cs hrow
    split at hd
    · rename_i hle0
      simp only [Option.map_eq_some_iff, Prod.mk.injEq] at hd
      obtain ⟨⟨l, h⟩, hlh, rfl, rfl⟩ := hd
      obtain ⟨hrun, hle, hle'⟩ := dlohi_run (w := w) hG hT h1 h2 hlh false n n rfl (Nat.le_refl _)
      obtain ⟨c, ce, fz, hb, hcs, hl, hrel⟩ := row_obj hR hi0 hrow
      have hcl : i.base + (off + l * esz) + (n - l) * esz ≤ i.csize := by
        have : l * esz + (n - l) * esz = n * esz := by rw [← Nat.add_mul]; congr 1; omega
        omega
      by_cases hm : n = l
      · refine q_ofRun (u := .slice (some ⟨i.b, i.base + off, none⟩) (h - l) (n - l)) ?_ (.slice d _ _ esz i _ (n - l) hi0 (by omega) (.inr ⟨by omega, by omega⟩) hcl)
        simp only [Instr.sliceAt, Sem.run_bind, run_underlying hu, Result.andThen_ok, Instr.sureAddr, Sem.run_pure, Option.map_none, hrun, sizeT_run hs]
        rw [if_pos hm]
      · refine q_ofRun (u := .slice (some ⟨i.b, i.base + (off + l * esz), none⟩) (h - l) (n - l)) ?_ (.slice d _ _ esz i _ (n - l) hi0 (by omega) (.inl rfl) hcl)
        simp [Instr.sliceAt, run_underlying hu, Instr.sureAddr, hrun, sizeT_run hs, hm, Addr.add_lit, Nat.add_assoc]
    · cases hd
  · cases hd

theorem q_assertC (hR : Rel P B0 φ H w) (hG : GRel P φ) (hT : TRel φ fr.tmps a.tmps) (t t' : TypeId) (y : Operand) (okb : Bool) (ho : o.op = .typeAssert y t' t okb) (hc : cOp P o = some op) (hd : dop P fr.eval H op = some (x, H')) :
    QRes P φ w H x H' ((execOp a.eval o).run P w) := by
  have _ := hR
  simp only [cOp, ho] at hc
  split at hc
  · cases hc
  · cases hc
  · rename_i d hni hu
    simp only [Option.pure_def, Option.bind_eq_bind, Option.bind_eq_some_iff, Option.some.injEq] at hc
    obtain ⟨zero, hzero, y', hy, rfl⟩ := hc
    have hp := opd_rel hG hT hy
    obtain ⟨zu, hzu, hzv⟩ := cvZero_run (P := P) (φ := φ) hzero w
    simp only [dop, dop_assertC] at hd
    simp only [execOp, ho]
    generalize fr.eval y' = vy at *
    generalize a.eval y = uy at *
    have hmiss : ∀ st dy, ((do if okb then pure (.tuple #[← zeroValue t, .bool false]) else runtimePanic (.typeAssertion st dy t "") : Sem Value)).run P w = .ok (.tuple #[zu, .bool false]) w ∨ okb = false := by
      intro st dy
      cases okb
      · exact .inr rfl
      · exact .inl (by simp [hzu])
    cases hp <;> (try (simp only [reduceCtorEq] at hd))
    · cases okb <;> simp only [if_true, if_false, Bool.false_eq_true, reduceCtorEq, Option.some.injEq, Prod.mk.injEq] at hd
      obtain ⟨rfl, rfl⟩ := hd
      refine q_ofRun (u := .tuple #[zu, .bool false]) ?_ (.of_tuple (LRel.cons hzv (LRel.cons (.bool _) (LRel.nil _))))
      simp only [Instr.typeAssert, Sem.run_bind, run_underlying hu, Result.andThen_ok]
      cases d <;> first | (exact absurd rfl (hni _)) | simp [hzu]
    · rename_i ut v uv hv
      split at hd
      · rename_i he
        subst he
        cases hd
        refine q_ofRun (u := if okb then .tuple #[uv, .bool true] else uv) ?_ ?_
        · simp only [Instr.typeAssert, Sem.run_bind, run_underlying hu, Result.andThen_ok]
          cases d <;> first | (exact absurd rfl (hni _)) | simp
        · cases okb
          · exact hv
          · exact .of_tuple (LRel.cons hv (LRel.cons (.bool _) (LRel.nil _)))
      · rename_i hne
        cases okb <;> simp only [if_true, if_false, Bool.false_eq_true, reduceCtorEq, Option.some.injEq, Prod.mk.injEq] at hd
        obtain ⟨rfl, rfl⟩ := hd
        refine q_ofRun (u := .tuple #[zu, .bool false]) ?_ (.of_tuple (LRel.cons hzv (LRel.cons (.bool _) (LRel.nil _))))
        simp only [Instr.typeAssert, Sem.run_bind, run_underlying hu, Result.andThen_ok]
        cases d <;> first | (exact absurd rfl (hni _)) | simp [hzu, hne]

theorem q_len (hR : Rel P B0 φ H w) (hG : GRel P φ) (hT : TRel φ fr.tmps a.tmps) (y : Operand) (t : TypeId) (y' : DOpd) (k : Nat) (ho : o.op = .call { callee := .builtin .len, args := #[y], argTypes := #[t] })
    (hu : (k = 0 ∧ P.underlying t = some .string) ∨ (∃ e, k = 1 ∧ P.underlying t = some (.slice e)) ∨ ∃ kk e, k = 2 ∧ P.underlying t = some (.map kk e))
    (hy : cOpd P y = some y') (hd : dop P fr.eval H (.len k y') = some (x, H')) : QRes P φ w H x H' ((execOp a.eval o).run P w) := by
  have hp := opd_rel hG hT hy
  simp only [dop, dop_len, Option.map_eq_some_iff, Prod.mk.injEq] at hd
  obtain ⟨v, hv, rfl, rfl⟩ := hd
  simp only [execOp, ho, resolve, Sem.run_bind, Sem.run_pure, Result.andThen_ok, invoke, builtin, Array.map_singleton]
  generalize fr.eval y' = vy at *
  generalize a.eval y = uy at *
  rcases hu with ⟨rfl, hu⟩ | ⟨e, rfl, hu⟩ | ⟨kk, e, rfl, hu⟩
  · cases hp <;> simp only [dlen, reduceCtorEq, Option.some.injEq] at hv
    subst hv
    rename_i s
    exact ⟨_, rfl, rfl, .int .i64 s.size, by simp [Builtin.len_, run_underlying hu, goInt], by
      have : (s.data.toList.length : Int) = (s.size : Int) := by simp
      rw [this]; exact .int _ _⟩
  · cases hp <;> simp only [dlen, reduceCtorEq, Option.some.injEq] at hv
    · subst hv
      exact ⟨_, rfl, rfl, .int .i64 0, by simp [Builtin.len_, run_underlying hu, goInt], .int _ _⟩
    · subst hv
      exact ⟨_, rfl, rfl, .int .i64 _, by simp [Builtin.len_, run_underlying hu, goInt], .int _ _⟩
  · simp only [dlen, Option.map_eq_some_iff] at hv
    obtain ⟨es, hes, rfl⟩ := hv
    obtain ⟨ents, hE, hcase⟩ := ents_of hR hp hes
    have hl : (es.length : Int) = (ents.size : Int) := by have := hE.1; simp at this; omega
    rcases hcase with ⟨rfl, rfl⟩ | ⟨rb, clock, rfl, hb⟩
    · exact ⟨_, rfl, rfl, .int .i64 0, by simp [Builtin.len_, run_underlying hu, goInt], by rw [hl]; exact .int _ _⟩
    · exact ⟨_, rfl, rfl, .int .i64 ents.size, by simp [Builtin.len_, run_underlying hu, goInt, run_getObj_map w rb ents clock hb], by rw [hl]; exact .int _ _⟩

theorem dmaxmin_run (hR : Rel P B0 φ H w) (hG : GRel P φ) (hT : TRel φ fr.tmps a.tmps) (isMax : Bool) : ∀ (l : List DV) (us : List Value) (v r : DV) (u : Value), VRel φ v u → LRel φ l us → dmaxmin isMax v l = some r →
    ∃ ru, (us.foldlM (if isMax then Builtin.max2 else Builtin.min2) u).run P w = .ok ru w ∧ VRel φ r ru
  | [], us, v, r, u, hv, hl, h => by
    have _ := hR
    have _ := hG
    have _ := hT
    obtain rfl := hl.nil_left
    cases hv <;> simp only [dmaxmin, reduceCtorEq, Option.some.injEq] at h
    subst h
    exact ⟨_, by simp, .int _ _⟩
  | y :: l, us, v, r, u, hv, hl, h => by
    obtain ⟨u', us', rfl, hv', hl'⟩ := hl.cons_left
    cases hv <;> (try (simp only [dmaxmin, reduceCtorEq] at h))
    cases hv' <;> (try (simp only [dmaxmin, reduceCtorEq] at h))
    rename_i k m k' n
    obtain ⟨ru, hru, hrr⟩ := dmaxmin_run hR hG hT isMax l us' _ r (.int k (if isMax then (if n > m then n else m) else (if n < m then n else m))) (.int _ _) hl' h
    refine ⟨ru, ?_, hrr⟩
    rw [List.foldlM_cons]
    cases isMax
    · simp only [Bool.false_eq_true, if_false] at hru ⊢
      simp only [Builtin.min2, Sem.run_bind, Sem.run_pure, Result.andThen_ok]
      exact hru
    · simp only [if_true] at hru ⊢
      simp only [Builtin.max2, Sem.run_bind, Sem.run_pure, Result.andThen_ok]
      exact hru

theorem q_maxmin (hR : Rel P B0 φ H w) (hG : GRel P φ) (hT : TRel φ fr.tmps a.tmps) (isMax : Bool) (ys : Array Operand) (ts : Array TypeId) (l : List DOpd) (ho : o.op = .call { callee := .builtin (if isMax then .max else .min), args := ys, argTypes := ts })
    (hy : cOpds P ys = some l) (hd : dop P fr.eval H (.maxmin isMax l) = some (x, H')) : QRes P φ w H x H' ((execOp a.eval o).run P w) := by
  have hl := opds_rel hG hT hy
  simp only [dop, dop_maxmin] at hd
  split at hd
  · rename_i v rest hm
    simp only [Option.map_eq_some_iff, Prod.mk.injEq] at hd
    obtain ⟨r, hr, rfl, rfl⟩ := hd
    rw [hm] at hl
    obtain ⟨u, us, hus, hv, hrest⟩ := hl.cons_left
    obtain ⟨ru, hru, hrr⟩ := dmaxmin_run (P := P) (w := w) hR hG hT isMax rest us v r u hv hrest hr
    refine ⟨_, rfl, rfl, ru, ?_, hrr⟩
    cases isMax
    · simp only [execOp, ho, resolve, Sem.run_bind, Sem.run_pure, Result.andThen_ok, invoke, builtin, Bool.false_eq_true, if_false, Builtin.min_, hus]
      simp only [Bool.false_eq_true, if_false] at hru
      rw [hru]; rfl
    · simp only [execOp, ho, resolve, Sem.run_bind, Sem.run_pure, Result.andThen_ok, invoke, builtin, if_true, Builtin.max_, hus]
      simp only [if_true] at hru
      rw [hru]; rfl
  · cases hd

theorem q_sliceData (hR : Rel P B0 φ H w) (hG : GRel P φ) (hT : TRel φ fr.tmps a.tmps) (y : Operand) (ts : Array TypeId) (y' : DOpd) (ho : o.op = .call { callee := .builtin .unsafeSliceData, args := #[y], argTypes := ts })
    (hy : cOpd P y = some y') (hd : dop P fr.eval H (.sliceData y') = some (x, H')) : QRes P φ w H x H' ((execOp a.eval o).run P w) := by
  have _ := hR
  have hp := opd_rel hG hT hy
  simp only [dop, dop_sliceData] at hd
  simp only [execOp, ho, resolve, Sem.run_bind, Sem.run_pure, Result.andThen_ok, invoke, builtin, Array.map_singleton]
  generalize fr.eval y' = vy at *
  generalize a.eval y = uy at *
  cases hp <;> (try (simp only [reduceCtorEq] at hd))
  · cases hd
    exact ⟨_, rfl, rfl, .pointer none, rfl, .nilPtr⟩
  · rename_i d off len e i o' cap hi hl ho' hcs
    split at hd
    · rename_i hlen
      cases hd
      have hoo : o' = i.base + off := by rcases ho' with h' | ⟨h', h''⟩ <;> omega
      have hcap : cap ≠ 0 := by omega
      have hrun : (Builtin.unsafeSliceData_ ts o.type #[.slice (some ⟨i.b, o', none⟩) len cap]).run P w = .ok (.pointer (some ⟨i.b, o', none⟩)) w := by
        show ((if cap ≠ 0 then pure (.pointer (some ⟨i.b, o', none⟩)) else _ : Sem Value)).run P w = _
        rw [if_pos hcap]; rfl
      refine ⟨_, rfl, rfl, .pointer (some ⟨i.b, o', none⟩), by simp only [hrun, Result.andThen_ok], ?_⟩
      rw [hoo]
      exact .ptr _ _ _ hi
    · cases hd
end
end Go.Proofs.YtfmmgggdgpfaaaaGreatDoor.DS
