/- The operations that make a block. -/
import Derived.Test.YtfmmgggdgpfaaaaGreatDoorDop6
import Derived.Laws.IdiomStrings
namespace Go.Proofs.YtfmmgggdgpfaaaaGreatDoor.DS
open Go.RowKit (Below)
set_option linter.unusedVariables false
set_option linter.unusedSimpArgs false

def NewOK (P : Program) (φ : Phi) (w : World) (r : Result Next) (B : DBlk) (mk : Nat → DV) : Prop :=
  B.own = true ∧ ∃ obj n u w', r = .ok (.value u) w' ∧ w'.heap = w.heap.push obj ∧ w'.os = w.os ∧ w'.tape = w.tape ∧ w'.output = w.output ∧
    ∀ φ' d, φ.le φ' → φ' d = some ⟨w.heap.size, 0, n⟩ → ORel P φ' ⟨w.heap.size, 0, n⟩ B.obj obj ∧ VRel φ' (mk d) u

theorem ORel.row {P : Program} {φ : Phi} {b : Nat} {cs : List DV} {us : Array Value} {e : TypeId} {ex : Bool} (h : LRel φ cs us.toList) :
    ORel P φ ⟨b, 0, us.size⟩ (.cells cs e 0 ex false) (.cells us e) := by
  have hl : cs.length = us.size := by have := h.1; simpa using this
  refine ⟨us, 0, 0, rfl, rfl, by simp [hl], fun _ => ⟨rfl, hl⟩, ?_, fun _ => ⟨Nat.le_refl _, Nat.zero_le _⟩, fun q h1 h2 => by omega⟩
  simp only [List.drop_zero]
  rw [List.take_of_length_le (by simp [hl])]
  exact h

theorem repCells_get (zero : List DV) (h0 : 0 < zero.length) : ∀ (n j : Nat), j < n * zero.length → (repCells zero n)[j]? = zero[j % zero.length]?
  | 0, j, h => by simp at h
  | n + 1, j, h => by
    rw [repCells]
    by_cases hj : j < zero.length
    · rw [List.getElem?_append_left hj, Nat.mod_eq_of_lt hj]
    · have hs : (n + 1) * zero.length = n * zero.length + zero.length := Nat.succ_mul n zero.length
      have hk : j - zero.length < n * zero.length := by omega
      have hm : j % zero.length = (j - zero.length) % zero.length := Nat.mod_eq_sub_mod (by omega)
      rw [List.getElem?_append_right (by omega), repCells_get zero h0 n (j - zero.length) hk, hm]

theorem repCells_length (zero : List DV) : ∀ n, (repCells zero n).length = n * zero.length
  | 0 => by simp [repCells]
  | n + 1 => by rw [repCells, List.length_append, repCells_length zero n, Nat.add_mul]; omega

theorem repCells_rel {φ : Phi} {zero : List DV} {z : Array Value} (h : LRel φ zero z.toList) (h0 : 0 < zero.length) (n : Nat) :
    LRel φ (repCells zero n) ((Array.range (n * zero.length)).map (z[· % z.size]!)).toList := by
  have hz : z.size = zero.length := by have := h.1; simp at this; omega
  refine ⟨by simp [repCells_length], fun j v u h1 h2 => ?_⟩
  have hj : j < n * zero.length := by
    rcases Nat.lt_or_ge j (n * zero.length) with h' | h'
    · exact h'
    · rw [List.getElem?_eq_none (by rw [repCells_length]; exact h')] at h1; exact nomatch h1
  rw [repCells_get zero h0 n j hj] at h1
  have hm : j % zero.length < zero.length := Nat.mod_lt _ h0
  have hu : u = z[j % z.size]! := by
    simp [hj] at h2
    exact h2.symm
  subst hu
  have h3 : z.toList[j % zero.length]? = some (z[j % z.size]!) := by
    rw [hz]
    simp [hz, hm]
  exact h.2 _ _ _ h1 h3

section
variable {P : Program} {B0 : Nat} {φ : Phi} {H H' : DH} {w : World} {fr : DFr} {a : Act} {o : Oper} {op : DOp} {B : DBlk} {mk : Nat → DV}

theorem n_alloc (hG : GRel P φ) (hT : TRel φ fr.tmps a.tmps) (e : TypeId) (ho : o.op = .alloc e) {zero : List DV} (hz : cvCells P e = some zero) (hd : da_alloc e zero = some (B, mk)) : NewOK P φ w ((execOp a.eval o).run P w) B mk := by
  have _ := hG
  have _ := hT
  simp only [da_alloc, Option.some.injEq, Prod.mk.injEq] at hd
  obtain ⟨rfl, rfl⟩ := hd
  obtain ⟨i, z, hi, hzz, hrel⟩ := cvCells_zero (φ := φ) hz
  refine ⟨rfl, .cells z.cells e, z.cells.size, .pointer (some ⟨w.heap.size, 0, none⟩), w.alloc (.cells z.cells e), ?_, rfl, rfl, rfl, rfl, fun φ' d hle hd' => ⟨ORel.row (hrel.mono hle), ?_⟩⟩
  · simp [execOp, ho, Instr.alloc, zeroValue, typeInfo, hi, hzz, newVar, newRow]
  · have := VRel.ptr (φ := φ') d 0 _ hd'; simpa using this

theorem n_box (hG : GRel P φ) (hT : TRel φ fr.tmps a.tmps) (e : TypeId) (y : Operand) {y' : DOpd} (ho : o.op = .box e y) (hy : cOpd P y = some y') (hd : da_box fr.eval e y' = some (B, mk)) : NewOK P φ w ((execOp a.eval o).run P w) B mk := by
  have hp := opd_rel hG hT hy
  simp only [da_box] at hd
  split at hd
  · rename_i cs hcs
    simp only [Option.some.injEq, Prod.mk.injEq] at hd
    obtain ⟨rfl, rfl⟩ := hd
    have hrel := hp.cells hcs
    refine ⟨rfl, .cells (a.eval y).cells e, (a.eval y).cells.size, .pointer (some ⟨w.heap.size, 0, none⟩), w.alloc (.cells (a.eval y).cells e), ?_, rfl, rfl, rfl, rfl, fun φ' d hle hd' => ⟨ORel.row (hrel.mono hle), ?_⟩⟩
    · simp [execOp, ho, Instr.box, newVar, newRow]
    · have := VRel.ptr (φ := φ') d 0 _ hd'; simpa using this
  · cases hd

theorem n_mkMap (hG : GRel P φ) (hT : TRel φ fr.tmps a.tmps) (t : TypeId) (ho : o.op = .makeMap t none) (hd : da_mkMap = some (B, mk)) : NewOK P φ w ((execOp a.eval o).run P w) B mk := by
  have _ := hG
  have _ := hT
  simp only [da_mkMap, Option.some.injEq, Prod.mk.injEq] at hd
  obtain ⟨rfl, rfl⟩ := hd
  refine ⟨rfl, .map #[] 0, 0, .map (some w.heap.size), w.alloc (.map #[] 0), ?_, rfl, rfl, rfl, rfl, fun φ' d hle hd' => ⟨⟨#[], 0, rfl, rfl, fun j p e h => by simp at h⟩, .map d _ hd'⟩⟩
  simp [execOp, ho, Instr.makeMap]

theorem n_mkSlice (hG : GRel P φ) (hT : TRel φ fr.tmps a.tmps) (t e : TypeId) (esz bytes : Nat) (y z : Operand) {y' z' : DOpd} {zero : List DV} (ho : o.op = .makeSlice t y z) (hu : P.underlying t = some (.slice e)) (hs : sizeT P e = some esz)
    (hb : bytesT P e = some bytes) (hz : cvCells P e = some zero) (hzl : zero.length = esz) (h0 : 0 < esz) (hy : cOpd P y = some y') (hz' : cOpd P z = some z')
    (hd : da_mkSlice fr.eval e esz bytes zero y' z' = some (B, mk)) : NewOK P φ w ((execOp a.eval o).run P w) B mk := by
  have hp := opd_rel hG hT hy
  have hq := opd_rel hG hT hz'
  simp only [da_mkSlice] at hd
  simp only [execOp, ho]
  generalize fr.eval y' = vy at *
  generalize a.eval y = uy at *
  generalize fr.eval z' = vz at *
  generalize a.eval z = uz at *
  cases hp <;> (try (simp only [reduceCtorEq] at hd)) <;> cases hq <;> (try (simp only [reduceCtorEq] at hd))
  rename_i kl l kc c
  split at hd
  · rename_i hc
    obtain ⟨hl0, rfl, hbb, h62⟩ := hc
    simp only [Option.some.injEq, Prod.mk.injEq] at hd
    obtain ⟨rfl, rfl⟩ := hd
    obtain ⟨i, zz, hi, hzz, hrel⟩ := cvCells_zero (φ := φ) hz
    have hsz : i.size = esz := by simpa [sizeT, hi] using hs
    have hby : i.bytes = bytes := by simpa [bytesT, hi] using hb
    have hrun := run_make (P := P) (w := w) t e i zz hu hi hzz kl kc l l hl0 (Int.le_refl _) (by rw [hby, Int.mul_comm]; omega) (by omega)
    have hm : madeCells zz.cells (l.toNat * i.size) = (Array.range (l.toNat * zero.length)).map (zz.cells[· % zz.cells.size]!) := by rw [hsz, ← hzl]; rfl
    have hrr := repCells_rel hrel (by omega) l.toNat
    rw [← hm] at hrr
    refine ⟨rfl, .cells (madeCells zz.cells (l.toNat * i.size)) e, (madeCells zz.cells (l.toNat * i.size)).size, .slice (some ⟨w.heap.size, 0, none⟩) l.toNat l.toNat, w.alloc (.cells (madeCells zz.cells (l.toNat * i.size)) e), ?_, rfl, rfl, rfl, rfl, fun φ' d hle hd' => ⟨ORel.row (hrr.mono hle), ?_⟩⟩
    · simp only [Sem.run_bind, hrun, Result.andThen_ok, Sem.run_pure]
    · refine .slice d 0 _ esz _ 0 _ hd' (Nat.le_refl _) (.inl rfl) ?_
      simp [size_madeCells, hsz]
  · cases hd

theorem n_buildSlice (hG : GRel P φ) (hT : TRel φ fr.tmps a.tmps) (t e : TypeId) (esz len : Nat) (parts : Array (Nat × Operand)) {zero : List DV} {l : List ((Nat × Nat) × DOpd)} (ho : o.op = .buildSlice t len parts) (hu : P.underlying t = some (.slice e))
    (hs : sizeT P e = some esz) (hz : cvCells P e = some zero) (hzl : zero.length = esz) (h0 : 0 < esz) (hsm : len * esz ≤ 65536)
    (hl : cParts P (fun i => some (i * esz, esz)) parts = some l)
    (hd : da_buildSlice fr.eval e esz len zero l = some (B, mk)) : NewOK P φ w ((execOp a.eval o).run P w) B mk := by
  simp only [da_buildSlice] at hd
  split at hd
  · rename_i cs hcs
    simp only [Option.some.injEq, Prod.mk.injEq] at hd
    obtain ⟨rfl, rfl⟩ := hd
    obtain ⟨i, zz, hi, hzz, hrel⟩ := cvCells_zero (φ := φ) hz
    have hsz : i.size = esz := by simpa [sizeT, hi] using hs
    have hrr := repCells_rel hrel (by omega) len
    obtain ⟨hlen, hpr⟩ := cParts_rel (place' := fun k => some (k * esz, esz)) hG hT (fun k q h => h) hl
    obtain ⟨cells', hf, hr⟩ := fill_rel (fun k => some (k * esz, esz)) _ _ _ _ _ hlen hpr hrr hcs
    have hcl : cells'.size = len * esz := by
      have h1 := hr.1
      have h2 : cs.length = (repCells zero len).length := by
        have gen : ∀ (ps : List ((Nat × Nat) × DV)) (a b : List DV), dfill a ps = some b → b.length = a.length := by
          intro ps
          induction ps with
          | nil => intro a b h; simp only [dfill, Option.some.injEq] at h; rw [h]
          | cons p ps ih =>
            intro a b h
            obtain ⟨⟨off, size⟩, v⟩ := p
            simp only [dfill] at h
            split at h
            · split at h
              · rw [ih _ _ h, putAt_length]
              · cases h
            · cases h
        exact gen _ _ _ hcs
      rw [repCells_length, hzl] at h2
      simp at h1
      omega
    have hrun : (Instr.buildSlice t len (parts.map fun p => (p.1, a.eval p.2))).run P w = .ok (.slice (some ⟨w.heap.size, 0, none⟩) len len) (w.alloc (.cells cells' e)) := by
      by_cases hpos : len * i.size = 0
      · have hlen0 : len = 0 := by
          rcases Nat.mul_eq_zero.1 hpos with h | h
          · exact h
          · omega
        subst hlen0
        have r0 : Array.range 0 = (#[] : Array Nat) := rfl
        have hf' : Instr.fill (fun k => some (k * i.size, i.size)) #[] (parts.map fun p => (p.1, a.eval p.2)).toList = some cells' := by
          rw [hsz]
          rw [Nat.zero_mul, r0, Array.map_empty] at hf
          exact hf
        simp only [Instr.buildSlice, Sem.run_bind, run_underlying hu, sizeOf, typeInfo, run_program, hi, Result.andThen_ok, Sem.run_pure, Nat.zero_mul, r0]
        rw [Array.toList_map] at hf'
        simp [hf', newRow]
      · refine run_buildSlice w t e len _ cells' i zz hu hi hzz (by rw [hsz]; omega) hpos ?_
        rw [hsz]
        rw [hzl] at hf
        exact hf
    refine ⟨rfl, .cells cells' e, cells'.size, .slice (some ⟨w.heap.size, 0, none⟩) len len, w.alloc (.cells cells' e), ?_, rfl, rfl, rfl, rfl, fun φ' d hle hd' => ⟨ORel.row (hr.mono hle), ?_⟩⟩
    · simp only [execOp, ho, Sem.run_bind, hrun, Result.andThen_ok, Sem.run_pure]
    · exact .slice d 0 _ esz _ 0 _ hd' (Nat.le_refl _) (.inl rfl) (by simp [hcl])
  · cases hd

theorem n_bytesOf (hG : GRel P φ) (hT : TRel φ fr.tmps a.tmps) (s t e : TypeId) (y : Operand) {y' : DOpd} (ho : o.op = .convert s t y) (hs : P.underlying s = some .string) (ht : P.underlying t = some (.slice e)) (he : P.underlying e = some (.int .u8))
    (hy : cOpd P y = some y') (hd : da_bytesOf fr.eval e y' = some (B, mk)) : NewOK P φ w ((execOp a.eval o).run P w) B mk := by
  have hp := opd_rel hG hT hy
  simp only [da_bytesOf] at hd
  simp only [execOp, ho]
  generalize fr.eval y' = vy at *
  generalize a.eval y = uy at *
  cases hp <;> (try (simp only [reduceCtorEq] at hd))
  rename_i st
  simp only [Option.some.injEq, Prod.mk.injEq] at hd
  obtain ⟨rfl, rfl⟩ := hd
  have hrun := run_bytes_of_string (P := P) w s t e st hs ht he
  have hge := grownCap_ge w st.size 0 e
  generalize grownCap w st.size 0 e = cap at *
  have hsz : (bytesRow st cap).size = cap := by
    simp [bytesRow]
    omega
  refine ⟨rfl, .cells (bytesRow st cap) e ((bytesRow st cap).size, (bytesRow st cap).size + 1), (bytesRow st cap).size, .slice (some ⟨w.heap.size, 0, none⟩) st.size cap,
    w.drew.alloc (.cells (bytesRow st cap) e ((bytesRow st cap).size, (bytesRow st cap).size + 1)), ?_, rfl, rfl, rfl, rfl, fun φ' d hle hd' => ⟨?_, ?_⟩⟩
  · simp only [Sem.run_bind, hrun, Result.andThen_ok, Sem.run_pure]
  · refine ⟨_, _, _, rfl, rfl, ?_, (fun h => nomatch h), ?_, (fun h => nomatch h), fun q h1 h2 => Or.inr h1⟩
    · simp [ofBytes, hsz]; exact hge
    · refine ⟨by simp [ofBytes, hsz]; exact (Nat.min_eq_left hge).symm, fun j v u h1 h2 => ?_⟩
      simp only [ofBytes, List.getElem?_map] at h1
      obtain ⟨b, hb, rfl⟩ := Option.map_eq_some_iff.1 h1
      have hj : j < st.data.size := by
        rcases Nat.lt_or_ge j st.data.size with h' | h'
        · exact h'
        · rw [List.getElem?_eq_none (by simpa using h')] at hb; exact nomatch hb
      simp only [List.drop_zero, List.getElem?_take, bytesRow, Array.toList_append, Array.toList_map] at h2
      rw [if_pos (by simp [ofBytes]; exact hj), List.getElem?_append_left (by simpa using hj), List.getElem?_map, hb] at h2
      simp at h2
      subst h2
      exact .int _ _
  · have hl : st.data.toList.length = st.size := by simp
    rw [hl]
    exact .slice d 0 _ 1 _ 0 cap hd' hge (.inl rfl) (by simp [hsz])
end
end Go.Proofs.YtfmmgggdgpfaaaaGreatDoor.DS
