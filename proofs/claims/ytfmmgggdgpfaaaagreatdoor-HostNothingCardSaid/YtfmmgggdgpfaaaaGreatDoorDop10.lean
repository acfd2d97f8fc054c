/- Appends, raw texts, calls: the operations; and all operations at once. -/
import Derived.Test.YtfmmgggdgpfaaaaGreatDoorDop9
import Derived.Test.YtfmmgggdgpfaaaaGreatDoorDop3
namespace Go.Proofs.YtfmmgggdgpfaaaaGreatDoor.DS
open Go.RowKit (Below)
set_option linter.unusedVariables false
set_option linter.unusedSimpArgs false

theorem dgetInts_rel {φ : Phi} : ∀ {cs : List DV} {us : List Value} {s : List UInt8}, LRel φ cs us → dgetInts cs = some s →
    s.length = cs.length ∧ ∀ (j : Nat) (b : UInt8), s[j]? = some b → us[j]? = some (.int .u8 b.toNat) := by
  intro cs
  induction cs with
  | nil => intro us s h hs; simp [dgetInts] at hs; subst hs; exact ⟨rfl, fun j b hb => by simp at hb⟩
  | cons v cs ih =>
    intro us s h hs
    obtain ⟨u, us', rfl, hv, hl⟩ := h.cons_left
    unfold dgetInts at hs
    split at hs
    · rename_i heq; cases heq
    · rename_i n rest heq
      cases heq
      split at hs
      · rename_i hn
        obtain ⟨s', hs', rfl⟩ := Option.map_eq_some_iff.1 hs
        obtain ⟨h1, h2⟩ := ih hl hs'
        cases hv
        refine ⟨by simp [h1], fun j b hb => ?_⟩
        cases j with
        | zero =>
          simp at hb
          subst hb
          have : ((UInt8.ofNat n.toNat).toNat : Int) = n := by
            rw [UInt8.toNat_ofNat']
            omega
          rw [this]; rfl
        | succ j => exact h2 j b (by simpa using hb)
      · cases hs
    · cases hs

section
variable {P : Program} {B0 : Nat} {φ : Phi} {H H' : DH} {w : World} {fr : DFr} {a : Act} {o : Oper} {op : DOp} {x : DNx}

theorem ofBytes_rel (φ : Phi) (s : ByteArray) : LRel φ (ofBytes s.data.toList) (byteCells s) := by
  refine ⟨by simp [ofBytes, byteCells], fun j v u h1 h2 => ?_⟩
  simp only [ofBytes, byteCells, List.getElem?_map] at h1 h2
  obtain ⟨b, hb, rfl⟩ := Option.map_eq_some_iff.1 h1
  rw [hb] at h2
  simp at h2
  subst h2
  exact .int _ _


theorem e_append (hR : Rel P B0 φ H w) (hG : GRel P φ) (hT : TRel φ fr.tmps a.tmps) (t tx e e' : TypeId) (esz bytes : Nat) (y z : Operand) {y' z' : DOpd} (ho : o.op = .call { callee := .builtin .append, args := #[y, z], argTypes := #[t, tx] })
    (ht : P.underlying t = some (.slice e)) (htx : P.underlying tx = some (.slice e')) (hs : sizeT P e = some esz) (hb : bytesT P e = some bytes) (hz0 : (cvCells P e).map (·.length) = some esz) (h0 : 0 < esz)
    (hy : cOpd P y = some y') (hz : cOpd P z = some z') (hd : dop P fr.eval H (.append e esz bytes y' z') = some (x, H')) :
    ∃ v, x = .val v ∧ VRes P B0 φ w H v H' ((execOp a.eval o).run P w) := by
  have hp := opd_rel hG hT hy
  have hq := opd_rel hG hT hz
  simp only [dop, dop_append] at hd
  have hex : (execOp a.eval o).run P w = ((do pure (Next.value (← Builtin.append_ #[t, tx] o.type #[a.eval y, a.eval z])) : Sem Next)).run P w := by
    simp [execOp, ho, resolve, invoke, builtin]
  rw [hex]
  generalize fr.eval y' = vy at *
  generalize a.eval y = uy at *
  generalize fr.eval z' = vz at *
  generalize a.eval z = uz at *
  cases hq <;> (try (simp only [reduceCtorEq] at hd))
  · simp only [Option.map_eq_some_iff, Prod.mk.injEq] at hd
    obtain ⟨⟨v, H2⟩, hv, rfl, rfl⟩ := hd
    obtain ⟨φ', w', u, hrun, hE, hR', hvu⟩ := append_core (ty := o.type) hR hG hT ht hs hb hz0 h0 hp (LRel.nil φ) (fun _ => Src.ofNil w htx 0) hv (fun _ => rfl)
    exact ⟨_, rfl, φ', w', u, .value u, by simp only [Sem.run_bind, hrun, Result.andThen_ok, Sem.run_pure], .inl rfl, hE, hR', hvu⟩
  · rename_i d off len es i o' cap hi hl ho' hcs
    split at hd
    · rename_i hee
      subst hee
      split at hd
      · rename_i cs hrow
        split at hd
        · rename_i hle
          simp only [Option.map_eq_some_iff, Prod.mk.injEq] at hd
          obtain ⟨⟨v, H2⟩, hv, rfl, rfl⟩ := hd
          obtain ⟨us, hul, hrel, hc⟩ := row_cells hR hi hrow hle
          have hsrc : okList ((cs.drop off).take (len * es)) = true → Src P es tx (.slice (some ⟨i.b, o', none⟩) len cap) len us w := by
            intro hok
            refine Src.ofSlice w htx _ len cap us hul ?_ (okList_one hok hrel)
            rcases ho' with h | ⟨h, _⟩
            · rw [h]; exact hc
            · subst h
              simp at hul
              subst hul
              intro j u hj; simp at hj
          obtain ⟨φ', w', u, hrun, hE, hR', hvu⟩ := append_core (ty := o.type) hR hG hT ht hs hb hz0 h0 hp hrel hsrc hv (fun h => by subst h; simp)
          exact ⟨_, rfl, φ', w', u, .value u, by simp only [Sem.run_bind, hrun, Result.andThen_ok, Sem.run_pure], .inl rfl, hE, hR', hvu⟩
        · cases hd
      · cases hd
    · cases hd

theorem e_appendStr (hR : Rel P B0 φ H w) (hG : GRel P φ) (hT : TRel φ fr.tmps a.tmps) (t tx e : TypeId) (y z : Operand) {y' z' : DOpd} (ho : o.op = .call { callee := .builtin .append, args := #[y, z], argTypes := #[t, tx] })
    (ht : P.underlying t = some (.slice e)) (htx : P.underlying tx = some .string) (hs : sizeT P e = some 1) (hb : bytesT P e = some 1) (hz0 : (cvCells P e).map (·.length) = some 1)
    (hy : cOpd P y = some y') (hz : cOpd P z = some z') (hd : dop P fr.eval H (.appendStr e y' z') = some (x, H')) :
    ∃ v, x = .val v ∧ VRes P B0 φ w H v H' ((execOp a.eval o).run P w) := by
  have hp := opd_rel hG hT hy
  have hq := opd_rel hG hT hz
  simp only [dop, dop_appendStr] at hd
  have hex : (execOp a.eval o).run P w = ((do pure (Next.value (← Builtin.append_ #[t, tx] o.type #[a.eval y, a.eval z])) : Sem Next)).run P w := by
    simp [execOp, ho, resolve, invoke, builtin]
  rw [hex]
  generalize fr.eval y' = vy at *
  generalize a.eval y = uy at *
  generalize fr.eval z' = vz at *
  generalize a.eval z = uz at *
  cases hq <;> (try (simp only [reduceCtorEq] at hd))
  rename_i s
  simp only [Option.map_eq_some_iff, Prod.mk.injEq] at hd
  obtain ⟨⟨v, H2⟩, hv, rfl, rfl⟩ := hd
  have hl : s.data.toList.length = s.size := by simp
  rw [hl] at hv
  obtain ⟨φ', w', u, hrun, hE, hR', hvu⟩ := append_core (ty := o.type) hR hG hT ht hs hb hz0 (by omega) hp (ofBytes_rel φ s) (fun _ => Src.ofString w htx s) hv
    (fun h => by
      have : s.data.toList = [] := List.eq_nil_of_length_eq_zero (by rw [hl]; exact h)
      rw [this]; rfl)
  exact ⟨_, rfl, φ', w', u, .value u, by simp only [Sem.run_bind, hrun, Result.andThen_ok, Sem.run_pure], .inl rfl, hE, hR', hvu⟩

theorem freeze_facts (hR : Rel P B0 φ H w) (hG : GRel P φ) (hT : TRel φ fr.tmps a.tmps) (g n : Nat) (hn : n ≠ 0) (c : Array Value) (e : TypeId) (lo hi : Nat) (hg : w.heap[g]? = some (.cells c e (lo, hi))) :
    (w.freeze ⟨g, 0, none⟩ n).heap.size = w.heap.size ∧ (w.freeze ⟨g, 0, none⟩ n).heap[g]? = some (.cells c e (if lo == hi then (0, 0 + n) else (min lo 0, max hi (0 + n)))) ∧
    (∀ k, k ≠ g → (w.freeze ⟨g, 0, none⟩ n).heap[k]? = w.heap[k]?) ∧ (w.freeze ⟨g, 0, none⟩ n).os = w.os ∧ (w.freeze ⟨g, 0, none⟩ n).tape = w.tape ∧ (w.freeze ⟨g, 0, none⟩ n).output = w.output := by
  have _ := hR
  have _ := hG
  have _ := hT
  unfold World.freeze
  rw [if_neg hn]
  refine ⟨by simp, by simp [Array.getElem?_modify, hg], fun k hk => ?_, rfl, rfl, rfl⟩
  simp only
  rw [Array.getElem?_modify, if_neg (fun e => hk e.symm)]

theorem e_rawStr (hR : Rel P B0 φ H w) (hG : GRel P φ) (hT : TRel φ fr.tmps a.tmps) (ts : Array TypeId) (pt e : TypeId) (y z : Operand) {y' z' : DOpd} (ho : o.op = .call { callee := .builtin .unsafeString, args := #[y, z], argTypes := ts })
    (hts : ∃ it, ts = #[pt, it]) (hu : P.underlying pt = some (.pointer e)) (hs : sizeT P e = some 1)
    (hy : cOpd P y = some y') (hz : cOpd P z = some z') (hd : dop P fr.eval H (.rawStr e y' z') = some (x, H')) :
    ∃ v, x = .val v ∧ VRes P B0 φ w H v H' ((execOp a.eval o).run P w) := by
  obtain ⟨it, rfl⟩ := hts
  have hp := opd_rel hG hT hy
  have hq := opd_rel hG hT hz
  simp only [dop, dop_rawStr] at hd
  have hex : (execOp a.eval o).run P w = ((do pure (Next.value (← Builtin.unsafeString_ #[pt, it] o.type #[a.eval y, a.eval z])) : Sem Next)).run P w := by
    simp [execOp, ho, resolve, invoke, builtin]
  rw [hex]
  generalize fr.eval y' = vy at *
  generalize a.eval y = uy at *
  generalize fr.eval z' = vz at *
  generalize a.eval z = uz at *
  split at hd
  · rename_i kk n
    split at hd
    · rename_i hn
      subst hn
      cases hd
      cases hp
      cases hq
      have hrun := Lib.run_unsafeString_none (P := P) w pt it o.type none
      exact ⟨_, rfl, φ, w, .string .empty, .value (.string .empty), by simp only [Sem.run_bind, hrun, Result.andThen_ok, Sem.run_pure], .inl rfl, .refl _ _ _ _, hR, .str .empty⟩
    · cases hd
  · rename_i d off n
    obtain ⟨i, hi, rfl⟩ : ∃ i, φ d = some i ∧ uy = .pointer (some ⟨i.b, i.base + off, none⟩) := by
      cases hp; exact ⟨_, by assumption, rfl⟩
    split at hd
    · rename_i cs e0 frz ex hg
      split at hd
      · rename_i hc
        obtain ⟨hn0, rfl, rfl, hnl, h62⟩ := hc
        simp only [Option.map_eq_some_iff, Prod.mk.injEq] at hd
        obtain ⟨l, hl, rfl, rfl⟩ := hd
        cases hq
        obtain ⟨ob, hob, c, lo, hi', rfl, hcsz, hfit, hex, hrel, hmk, hfr⟩ := hR.blk d i _ hi hg
        have hbase := (hR.lo d i _ hi hg rfl).2
        simp only [hbase, Nat.zero_add, Nat.add_zero, List.drop_zero] at hfit hrel hex hmk hfr ⊢
        obtain ⟨hll, hlc⟩ := dgetInts_rel (hrel.take n.toNat) hl
        have hln : l.length = n.toNat := by rw [hll]; simp; omega
        have hnn : n = (l.length : Int) := by omega
        have hcell : ∀ j b, l[j]? = some b → w.cell? ((⟨i.b, 0, none⟩ : Addr).add j) = some (.int .u8 b.toNat) := by
          intro j b hj
          have := hlc j b hj
          rw [List.getElem?_take] at this
          split at this
          · rw [List.getElem?_take] at this
            split at this
            · rw [Addr.add_lit]
              simp only [World.cell?, hob, Option.isSome_none, Bool.false_eq_true, if_false, Nat.zero_add]
              rw [← this]; simp
            · exact nomatch this
          · exact nomatch this
        have hcof : P.cellsOf e0 = 1 := by
          obtain ⟨ti, hti, h1⟩ := Option.map_eq_some_iff.1 hs
          simp [Program.cellsOf, hti, h1]
        have hrun := Lib.run_unsafeString_row (P := P) w pt it o.type e0 hu hcof i.b c.size (by simp [World.shape?, hob]) l (by intro h; subst h; simp at hln; omega) (by omega) (by omega) hcell
        rw [← hnn] at hrun
        obtain ⟨g1, g2, g3, g4, g5, g6⟩ := freeze_facts (w := w) hR hG hT i.b l.length (by omega) c e0 lo hi' hob
        have hnew : ORel P φ i (.cells cs e0 (max frz n.toNat) ex false) (.cells c e0 (if lo == hi' then (0, 0 + l.length) else (min lo 0, max hi' (0 + l.length)))) := by
          have hmk' := hmk trivial
          by_cases hlh : lo = hi'
          · subst hlh
            rw [if_pos (by simp)]
            refine ⟨c, _, _, rfl, hcsz, by rw [hbase]; omega, (fun h => ⟨hbase, (hex h).2⟩), by rw [hbase]; exact hrel, fun _ => by rw [hbase]; omega, fun q h1 h2 => Or.inl (by omega)⟩
          · rw [if_neg (by simp [hlh])]
            refine ⟨c, _, _, rfl, hcsz, by rw [hbase]; omega, (fun h => ⟨hbase, (hex h).2⟩), by rw [hbase]; exact hrel, fun _ => ?_, fun q h1 h2 => Or.inl ?_⟩
            · rw [hbase]; omega
            · rw [hbase]; omega
        obtain ⟨hR', hE'⟩ := hR.update hi hg rfl _ _ (w.freeze ⟨i.b, 0, none⟩ l.length) hnew g1 g2 g3 g4 g5 g6
        refine ⟨_, rfl, φ, _, .string ⟨l.toArray⟩, .value (.string ⟨l.toArray⟩), by simp only [Sem.run_bind, hrun, Result.andThen_ok, Sem.run_pure], .inl rfl, hE', hR', ?_⟩
        exact .str ⟨l.toArray⟩
      · cases hd
    · cases hd
  · cases hd
end
end Go.Proofs.YtfmmgggdgpfaaaaGreatDoor.DS
