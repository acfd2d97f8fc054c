/- The quiet operations: literals, maps, assertions, lengths, raw memory. -/
import Derived.Test.YtfmmgggdgpfaaaaGreatDoorDop4
namespace Go.Proofs.YtfmmgggdgpfaaaaGreatDoor.DS
open Go.RowKit (Below)
set_option linter.unusedVariables false
set_option linter.unusedSimpArgs false

theorem putAt_length {α : Type} : ∀ (vs cs : List α) (n : Nat), (putAt cs n vs).length = cs.length
  | [], _, _ => rfl
  | v :: vs, cs, n => by rw [putAt, putAt_length vs]; simp

theorem LRel.putAt {φ : Phi} : ∀ {vs : List DV} {us : List Value} {cs : List DV} {cs' : List Value} (n : Nat), LRel φ vs us → LRel φ cs cs' → LRel φ (putAt cs n vs) (DS.putAt cs' n us)
  | [], us, cs, cs', n, h, k => by obtain rfl := h.nil_left; exact k
  | v :: vs, us, cs, cs', n, h, k => by
    obtain ⟨u, us', rfl, hv, hl⟩ := h.cons_left
    exact LRel.putAt (n + 1) hl (k.set hv n)

theorem foldl_set (off : Nat) : ∀ (l : List Value) (k : Nat) (cells : Array Value),
    ((l.zipIdx k).foldl (fun (cs : Array Value) (p : Value × Nat) => cs.setIfInBounds (off + p.2) p.1) cells).toList = putAt cells.toList (off + k) l
  | [], k, cells => rfl
  | v :: l, k, cells => by
    rw [List.zipIdx_cons, List.foldl_cons, foldl_set off l (k + 1)]
    simp only [Array.toList_setIfInBounds]
    rfl

theorem fill_rel {φ : Phi} (place : Nat → Option (Nat × Nat)) : ∀ (ps : List ((Nat × Nat) × DV)) (qs : List (Nat × Value)) (cs r : List DV) (cells : Array Value),
    ps.length = qs.length → (∀ (j : Nat) (p : (Nat × Nat) × DV) (q : Nat × Value), ps[j]? = some p → qs[j]? = some q → place q.1 = some p.1 ∧ VRel φ p.2 q.2) →
    LRel φ cs cells.toList → dfill cs ps = some r → ∃ cells', Instr.fill place cells qs = some cells' ∧ LRel φ r cells'.toList
  | [], qs, cs, r, cells, hl, _, hc, h => by
    obtain rfl : qs = [] := List.eq_nil_of_length_eq_zero hl.symm
    simp only [dfill, Option.some.injEq] at h
    subst h
    exact ⟨cells, rfl, hc⟩
  | ((off, size), v) :: ps, [], cs, r, cells, hl, _, _, _ => by simp at hl
  | ((off, size), v) :: ps, (i, u) :: qs, cs, r, cells, hl, hp, hc, h => by
    have h0 := hp 0 _ _ rfl rfl
    simp only at h0
    simp only [dfill] at h
    split at h
    · rename_i vs hvs
      split at h
      · rename_i hle
        have hcr := h0.2.cells hvs
        have hus : u.cells.size = size := by have := hcr.1; simp at this; omega
        have hcs : cells.size = cs.length := by have := hc.1; simp at this; omega
        have hnext : LRel φ (putAt cs off vs) ((u.cells.zipIdx.foldl (fun (cs : Array Value) (p : Value × Nat) => cs.setIfInBounds (off + p.2) p.1) cells)).toList := by
          rw [← Array.foldl_toList, Array.toList_zipIdx, foldl_set off u.cells.toList 0 cells]
          exact LRel.putAt off hcr hc
        obtain ⟨cells', hf, hr⟩ := fill_rel place ps qs _ r _ (by simpa using hl) (fun j p q a b => hp (j + 1) p q (by simpa using a) (by simpa using b)) hnext h
        refine ⟨cells', ?_, hr⟩
        simp only [Instr.fill, h0.1]
        rw [if_neg]
        · exact hf
        · simp [hus]; omega
      · cases h
    · cases h


theorem bytes_beq (s t : ByteArray) : (s == t) = (s.data.toList == t.data.toList) := by
  show (s.data == t.data) = _
  by_cases h : s.data = t.data
  · rw [h]; simp
  · have h2 : s.data.toList ≠ t.data.toList := fun e => h (Array.toList_inj.1 e)
    rw [beq_eq_false_iff_ne.2 h, beq_eq_false_iff_ne.2 h2]

def kdesc : KTy → TypeDesc → Prop
  | .int, d => ∃ k, d = .int k
  | .str, d => d = .string
  | .bool, d => d = .bool

theorem cKeyTy_desc {P : Program} {t : TypeId} {kt : KTy} (h : cKeyTy P t = some kt) : ∃ d, P.underlying t = some d ∧ kdesc kt d := by
  unfold cKeyTy at h
  split at h <;> cases h <;> rename_i hu
  · exact ⟨_, hu, _, rfl⟩
  · exact ⟨_, hu, rfl⟩
  · exact ⟨_, hu, rfl⟩

theorem sameKey_rel {φ : Phi} {kt : KTy} {d : TypeDesc} (hd : kdesc kt d) {k k' : DV} {u u' : Value} (hk : keyOk kt k = true) (h1 : VRel φ k u) (h2 : VRel φ k' u') {b : Bool}
    (h : sameKey k k' = some b) : Instr.sameNow d u u' = some b := by
  cases kt
  · obtain ⟨q, rfl⟩ := hd
    cases h1 <;> simp only [keyOk, reduceCtorEq, Bool.false_eq_true] at hk
    cases h2 <;> simp only [sameKey, reduceCtorEq] at h
    split at h
    · rename_i e; cases h; simp [Instr.sameNow, e]
    · cases h
  · cases hd
    cases h1 <;> simp only [keyOk, reduceCtorEq, Bool.false_eq_true] at hk
    generalize hv : k' = kk at *
    cases h2 <;> simp only [sameKey, reduceCtorEq] at h
    cases h
    simp [Instr.sameNow, bytes_beq]
  · cases hd
    cases h1 <;> simp only [keyOk, reduceCtorEq, Bool.false_eq_true] at hk
    cases h2 <;> simp only [sameKey, reduceCtorEq] at h
    cases h
    simp [Instr.sameNow]

/-- Entries, side by side. -/
def ERel (φ : Phi) (es : List (DV × DV)) (ents : List MapEntry) : Prop :=
  es.length = ents.length ∧ ∀ (j : Nat) (p : DV × DV) (e : MapEntry), es[j]? = some p → ents[j]? = some e → VRel φ p.1 e.key ∧ VRel φ p.2 e.val

theorem ERel.cons_left {φ : Phi} {p : DV × DV} {es : List (DV × DV)} {ents : List MapEntry} (h : ERel φ (p :: es) ents) :
    ∃ e ents', ents = e :: ents' ∧ VRel φ p.1 e.key ∧ VRel φ p.2 e.val ∧ ERel φ es ents' := by
  cases ents with
  | nil => have := h.1; simp at this
  | cons e ents' =>
    have h0 := h.2 0 p e rfl rfl
    exact ⟨e, ents', rfl, h0.1, h0.2, by have := h.1; simpa using this, fun j p e a b => h.2 (j + 1) p e (by simpa using a) (by simpa using b)⟩

theorem dfind_rel {φ : Phi} {kt : KTy} {d : TypeDesc} (hd : kdesc kt d) {k : DV} {u : Value} (hk : keyOk kt k = true) (h1 : VRel φ k u) :
    ∀ (es : List (DV × DV)) (ents : List MapEntry) (i : Nat) (r : Option DV), ERel φ es ents → dfind k es = some r →
      ∃ r', Instr.findNow d u ents i = some r' ∧ (match r, r' with | none, none => True | some v, some (j, v') => VRel φ v v' ∧ i ≤ j | _, _ => False)
  | [], ents, i, r, he, h => by
    obtain rfl : ents = [] := List.eq_nil_of_length_eq_zero he.1.symm
    simp only [dfind, Option.map_eq_some_iff] at h
    obtain ⟨_, _, rfl⟩ := h
    exact ⟨none, rfl, trivial⟩
  | (k', v) :: es, ents, i, r, he, h => by
    obtain ⟨e, ents', rfl, hk1, hv1, he'⟩ := he.cons_left
    simp only [dfind] at h
    split at h
    · rename_i hs
      cases h
      exact ⟨some (i, e.val), by simp [Instr.findNow, sameKey_rel hd hk h1 hk1 hs], hv1, Nat.le_refl _⟩
    · rename_i hs
      obtain ⟨r', hr, hrel⟩ := dfind_rel hd hk h1 es ents' (i + 1) r he' h
      refine ⟨r', by simp [Instr.findNow, sameKey_rel hd hk h1 hk1 hs, hr], ?_⟩
      cases r <;> cases r' <;> simp_all
      omega
    · cases h

section
variable {P : Program} {B0 : Nat} {φ : Phi} {H H' : DH} {w : World} {fr : DFr} {a : Act} {o : Oper} {op : DOp} {x : DNx}

theorem run_checkKeyD {kt : KTy} {t : TypeId} {d : TypeDesc} (hu : P.underlying t = some d) (hd : kdesc kt d) (em : Bool) (D : Nat) (u : Value) : (Instr.checkKey em (D + 1) t u).run P w = .ok () w := by
  cases kt
  · obtain ⟨q, rfl⟩ := hd
    simp only [Instr.checkKey, Sem.run_bind, run_underlying hu, Result.andThen_ok]; rfl
  · cases hd
    simp only [Instr.checkKey, Sem.run_bind, run_underlying hu, Result.andThen_ok]; rfl
  · cases hd
    simp only [Instr.checkKey, Sem.run_bind, run_underlying hu, Result.andThen_ok]; rfl

theorem cvZero_run {t : TypeId} {z : DV} (h : cvZero P t = some z) (w : World) : ∃ u, (zeroValue t).run P w = .ok u w ∧ VRel φ z u := by
  unfold cvZero at h
  cases hi : P.info? t with
  | none => simp [hi] at h
  | some i =>
    cases hz : i.zero with
    | none => simp [hi, hz] at h
    | some u =>
      simp [hi, hz] at h
      exact ⟨u, by simp [zeroValue, typeInfo, hi, hz], cv_rel φ 3 u z h⟩

theorem ents_of (hR : Rel P B0 φ H w) {v : DV} {u : Value} (hv : VRel φ v u) {es : List (DV × DV)} (h : dents H v = some es) :
    ∃ ents : Array MapEntry, ERel φ es ents.toList ∧ ((u = .map none ∧ ents = #[]) ∨ ∃ r clock, u = .map (some r) ∧ w.heap[r]? = some (.map ents clock)) := by
  cases hv <;> simp only [dents, reduceCtorEq, Option.some.injEq] at h
  · subst h
    exact ⟨#[], ⟨rfl, fun j p e a => by simp at a⟩, .inl ⟨rfl, rfl⟩⟩
  · rename_i d i hi
    split at h
    · rename_i es' own hg
      cases h
      obtain ⟨o, ho, ents, clock, rfl, h2, h3⟩ := hR.blk d i _ hi hg
      exact ⟨ents, ⟨by simpa using h2, fun j p e a b => h3 j p e a (by simpa using b)⟩, .inr ⟨i.b, clock, rfl, ho⟩⟩
    · cases h


theorem q_lookup (hR : Rel P B0 φ H w) (hG : GRel P φ) (hT : TRel φ fr.tmps a.tmps) (t k e : TypeId) (y z : Operand) (okb : Bool) {y' z' : DOpd} {kt : KTy} {zero : DV} (ho : o.op = .lookup t y z okb) (hu : P.underlying t = some (.map k e)) (hk : cKeyTy P k = some kt)
    (hz0 : cvZero P e = some zero) (hy : cOpd P y = some y') (hz : cOpd P z = some z') (hd : dop P fr.eval H (.lookup kt okb zero y' z') = some (x, H')) :
    QRes P φ w H x H' ((execOp a.eval o).run P w) := by
  have hp := opd_rel hG hT hy
  have hq := opd_rel hG hT hz
  simp only [dop, dop_lookup] at hd
  simp only [execOp, ho]
  generalize fr.eval y' = vy at *
  generalize a.eval y = uy at *
  generalize fr.eval z' = vz at *
  generalize a.eval z = uz at *
  split at hd
  · rename_i es hes
    split at hd
    · rename_i hko
      simp only [Option.map_eq_some_iff, Prod.mk.injEq] at hd
      obtain ⟨r, hr, rfl, rfl⟩ := hd
      obtain ⟨ents, hER, hcase⟩ := ents_of hR hp hes
      obtain ⟨d, hud, hkd⟩ := cKeyTy_desc hk
      obtain ⟨r', hf, hrel⟩ := dfind_rel hkd hko hq es ents.toList 0 r hER hr
      obtain ⟨zu, hzu, hzv⟩ := cvZero_run (P := P) (φ := φ) hz0 w
      have hck := fun (b : Bool) => run_checkKeyD (P := P) (w := w) hud hkd b 9999 uz
      have hfk : (Instr.findKey k uz ents.toList).run P w = .ok r' w := by
        simp only [Instr.findKey, Sem.run_bind, run_underlying hud, Result.andThen_ok, hf]; rfl
      have hen : ∀ {α : Type} (K : Array MapEntry → Sem α), ((do
          let es ← match uy with
            | .map none => pure #[]
            | .map (some r) => do
              let .map es _ ← getObj r | stuck "Lookup: map expected"
              pure es
            | _ => stuck "Lookup: map expected"
          K es) : Sem α).run P w = (K ents).run P w := by
        intro α K
        rcases hcase with ⟨rfl, rfl⟩ | ⟨rb, clock, rfl, hb⟩
        · simp
        · simp [run_getObj_map w rb ents clock hb]
      have hfin : ∃ u, (Instr.lookup t uy uz okb).run P w = .ok u w ∧ VRel φ (if okb then .tuple [r.getD zero, .bool r.isSome] else r.getD zero) u := by
        have hrun : (Instr.lookup t uy uz okb).run P w = ((do
            let p ← match r' with
              | some (_, v) => pure (v, true)
              | none => do pure (← zeroValue e, false)
            pure (if okb then Value.tuple #[p.1, .bool p.2] else p.1)) : Sem Value).run P w := by
          simp only [Instr.lookup, Sem.run_bind, run_underlying hu, Result.andThen_ok]
          have := hen (fun es => do
            Instr.checkKey es.isEmpty 10000 k uz
            let p ← match ← Instr.findKey k uz es.toList with
              | some (_, v) => pure (v, true)
              | none => do pure (← zeroValue e, false)
            pure (if okb then Value.tuple #[p.1, .bool p.2] else p.1))
          refine Eq.trans this ?_
          simp only [Sem.run_bind, hck, Result.andThen_ok, hfk]
        rw [hrun]
        cases r with
        | none =>
          cases r' with
          | none =>
            refine ⟨if okb then .tuple #[zu, .bool false] else zu, by simp [hzu], ?_⟩
            cases okb
            · exact hzv
            · exact .of_tuple (LRel.cons hzv (LRel.cons (.bool _) (LRel.nil _)))
          | some q => exact hrel.elim
        | some v =>
          cases r' with
          | none => exact hrel.elim
          | some q =>
            obtain ⟨q1, q2⟩ := q
            refine ⟨if okb then .tuple #[q2, .bool true] else q2, by simp, ?_⟩
            cases okb
            · exact hrel.1
            · exact .of_tuple (LRel.cons hrel.1 (LRel.cons (.bool _) (LRel.nil _)))
      obtain ⟨u, hu1, hu2⟩ := hfin
      exact q_ofRun hu1 hu2
    · cases hd
  · cases hd
end
end Go.Proofs.YtfmmgggdgpfaaaaGreatDoor.DS
