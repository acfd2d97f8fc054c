/- Maps written, appends, raw texts, calls. -/
import Derived.Test.YtfmmgggdgpfaaaaGreatDoorDop8
namespace Go.Proofs.YtfmmgggdgpfaaaaGreatDoor.DS
open Go.RowKit (Below)
set_option linter.unusedVariables false
set_option linter.unusedSimpArgs false

theorem dupd_rel {φ : Phi} {kt : KTy} {d : TypeDesc} (hd : kdesc kt d) {k v : DV} {u : Value} (hk : keyOk kt k = true) (h1 : VRel φ k u) :
    ∀ (es : List (DV × DV)) (ents : List MapEntry) (i : Nat) (es' : List (DV × DV)), ERel φ es ents → dupd k v es = some es' →
      (Instr.findNow d u ents i = some none ∧ es' = es ++ [(k, v)]) ∨
      (∃ j v' e, Instr.findNow d u ents i = some (some (i + j, v')) ∧ es' = es.set j (k, v) ∧ ents[j]? = some e ∧ Instr.sameNow d u e.key = some true ∧ j < es.length)
  | [], ents, i, es', he, h => by
    obtain rfl : ents = [] := List.eq_nil_of_length_eq_zero he.1.symm
    simp only [dupd, Option.map_eq_some_iff] at h
    obtain ⟨_, _, rfl⟩ := h
    exact .inl ⟨rfl, rfl⟩
  | (k', v') :: es, ents, i, es', he, h => by
    obtain ⟨e, ents', rfl, hk1, hv1, he'⟩ := he.cons_left
    simp only [dupd] at h
    split at h
    · rename_i hs
      cases h
      have hsn := sameKey_rel hd hk h1 hk1 hs
      exact .inr ⟨0, e.val, e, by simp [Instr.findNow, hsn], by simp, rfl, hsn, by simp⟩
    · rename_i hs
      have hsn := sameKey_rel hd hk h1 hk1 hs
      obtain ⟨es'', h2, rfl⟩ := Option.map_eq_some_iff.1 h
      rcases dupd_rel hd hk h1 es ents' (i + 1) es'' he' h2 with ⟨g1, rfl⟩ | ⟨j, w', e', g1, rfl, g3, g4, g5⟩
      · exact .inl ⟨by simp [Instr.findNow, hsn, g1], by simp⟩
      · exact .inr ⟨j + 1, w', e', by simp [Instr.findNow, hsn, g1]; omega, by simp, by simpa using g3, g4, by simp; omega⟩
    · cases h

theorem sameBits_of {d : TypeDesc} {u u' : Value} (h : Instr.sameNow d u u' = some true) (n : Nat) : Instr.sameBits n u' u = true := by
  unfold Instr.sameNow at h
  split at h
  · split at h
    · rename_i e
      simp at h
      subst h; subst e
      cases n <;> simp [Instr.sameBits]
    · cases h
  · rename_i a b
    simp [bytes_beq] at h
    cases n <;> simp [Instr.sameBits, bytes_beq, h]
  · simp at h
    subst h
    cases n <;> simp [Instr.sameBits]
  · cases h

section
variable {P : Program} {B0 : Nat} {φ : Phi} {H H' : DH} {w : World} {fr : DFr} {a : Act} {o : Oper} {op : DOp} {x : DNx}

theorem setObj_facts (w : World) (r : Nat) (ob : Obj) (hr : r < w.heap.size) :
    ({ w with heap := w.heap.setIfInBounds r ob } : World).heap.size = w.heap.size ∧ ({ w with heap := w.heap.setIfInBounds r ob } : World).heap[r]? = some ob ∧
    ∀ k, k ≠ r → ({ w with heap := w.heap.setIfInBounds r ob } : World).heap[k]? = w.heap[k]? := by
  refine ⟨by simp, by simp [hr], fun k hk => ?_⟩
  simp only
  rw [Array.getElem?_setIfInBounds_ne (fun e => hk e.symm)]


theorem e_mapSet (hR : Rel P B0 φ H w) (hG : GRel P φ) (hT : TRel φ fr.tmps a.tmps) (t k e : TypeId) (y z q : Operand) {kt : KTy} {y' z' q' : DOpd} (ho : o.op = .mapUpdate t y z q ∨ o.op = .insert t y z q) (hu : P.underlying t = some (.map k e)) (hk : cKeyTy P k = some kt)
    (hy : cOpd P y = some y') (hz : cOpd P z = some z') (hq : cOpd P q = some q') (hd : dop P fr.eval H (.mapSet kt y' z' q') = some (x, H')) :
    ∃ v, x = .val v ∧ VRes P B0 φ w H v H' ((execOp a.eval o).run P w) := by
  have hpy := opd_rel hG hT hy
  have hpz := opd_rel hG hT hz
  have hpq := opd_rel hG hT hq
  simp only [dop, dop_mapSet] at hd
  have hex : (execOp a.eval o).run P w = ((do Instr.mapUpdate t (a.eval y) (a.eval z) (a.eval q); pure Next.skip) : Sem Next).run P w := by
    rcases ho with ho | ho <;> simp [execOp, ho]
  rw [hex]
  generalize fr.eval y' = vy at *
  generalize a.eval y = uy at *
  generalize fr.eval z' = vz at *
  generalize a.eval z = uz at *
  generalize fr.eval q' = vq at *
  generalize a.eval q = uq at *
  split at hd
  · rename_i d
    obtain ⟨i, hi, rfl⟩ : ∃ i, φ d = some i ∧ uy = .map (some i.b) := by
      cases hpy; exact ⟨_, by assumption, rfl⟩
    split at hd
    · rename_i es hg
      split at hd
      · rename_i hko
        simp only [Option.map_eq_some_iff, Prod.mk.injEq] at hd
        obtain ⟨es', hes, rfl, rfl⟩ := hd
        obtain ⟨ob, hob, ents, clock, rfl, hlen, hent⟩ := hR.blk d i _ hi hg
        obtain ⟨ds, hud, hkd⟩ := cKeyTy_desc hk
        have hE : ERel φ es ents.toList := ⟨by simpa using hlen, fun j p e a b => hent j p e a (by simpa using b)⟩
        have hck := run_checkKeyD (P := P) (w := w) hud hkd false 9999 uz
        have hlt := hR.lt_size hi hg
        have hgo := run_getObj_map (P := P) w i.b ents clock hob
        refine ⟨_, rfl, ?_⟩
        rcases dupd_rel hkd hko hpz es ents.toList 0 es' hE hes with ⟨g1, rfl⟩ | ⟨j, v', ee, g1, rfl, g3, g4, g5⟩
        · have hfk : (Instr.findKey k uz ents.toList).run P w = .ok none w := by
            simp only [Instr.findKey, Sem.run_bind, run_underlying hud, Result.andThen_ok, g1]; rfl
          obtain ⟨s1, s2, s3⟩ := setObj_facts w i.b (.map (ents.push { key := uz, val := uq, born := clock }) (clock + 1)) hlt
          have hso : (setObj i.b (.map (ents.push { key := uz, val := uq, born := clock }) (clock + 1))).run P w = .ok () { w with heap := w.heap.setIfInBounds i.b (.map (ents.push { key := uz, val := uq, born := clock }) (clock + 1)) } := by
            simp [setObj, Sem.run, hob]
          have hnew : ORel P φ i (.map (es ++ [(vz, vq)])) (.map (ents.push { key := uz, val := uq, born := clock }) (clock + 1)) := by
            refine ⟨_, _, rfl, by simp [hlen], fun j p e h1 h2 => ?_⟩
            by_cases hj : j < es.length
            · rw [List.getElem?_append_left hj] at h1
              rw [Array.getElem?_push_lt (by omega)] at h2
              have h2' : ents[j]? = some e := by rw [← h2]; simp [Array.getElem?_eq_getElem (show j < ents.size by omega)]
              exact hent j p e h1 h2'
            · rw [List.getElem?_append_right (by omega)] at h1
              have hj0 : j - es.length = 0 := by
                rcases Nat.eq_zero_or_pos (j - es.length) with h | h
                · exact h
                · rw [List.getElem?_eq_none (by simp; omega)] at h1; exact nomatch h1
              rw [hj0] at h1
              simp at h1
              subst h1
              have : j = ents.size := by omega
              subst this
              simp at h2
              subst h2
              exact ⟨hpz, hpq⟩
          obtain ⟨hR', hE'⟩ := hR.update hi hg rfl _ _ _ hnew s1 s2 s3 rfl rfl rfl
          refine ⟨φ, _, undef, .skip, ?_, .inr ⟨rfl, rfl⟩, hE', hR', .of_tuple (LRel.nil _)⟩
          simp only [Instr.mapUpdate, Sem.run_bind, run_underlying hu, Result.andThen_ok, hgo, hck, hfk, hso, Sem.run_pure]
        · have hfk : (Instr.findKey k uz ents.toList).run P w = .ok (some (j, v')) w := by
            simp only [Instr.findKey, Sem.run_bind, run_underlying hud, Result.andThen_ok, g1, Nat.zero_add]; rfl
          have hej : ents[j]? = some ee := by simpa using g3
          have hkts : (Instr.keyThatStays (((ents[j]?).map (·.key)).getD uz) uz).run P w = .ok uz w := by
            rw [hej]
            simp [Instr.keyThatStays, sameBits_of g4]
          obtain ⟨s1, s2, s3⟩ := setObj_facts w i.b (.map (ents.modify j fun e => { e with key := uz, val := uq }) clock) hlt
          have hso : (setObj i.b (.map (ents.modify j fun e => { e with key := uz, val := uq }) clock)).run P w = .ok () { w with heap := w.heap.setIfInBounds i.b (.map (ents.modify j fun e => { e with key := uz, val := uq }) clock) } := by
            simp [setObj, Sem.run, hob]
          have hnew : ORel P φ i (.map (es.set j (vz, vq))) (.map (ents.modify j fun e => { e with key := uz, val := uq }) clock) := by
            refine ⟨_, _, rfl, by simp [hlen], fun j' p e h1 h2 => ?_⟩
            rw [List.getElem?_set] at h1
            rw [Array.getElem?_modify] at h2
            by_cases hjj : j = j'
            · subst hjj
              rw [if_pos rfl] at h2
              rw [if_pos rfl, if_pos g5] at h1
              cases h1
              obtain ⟨e0, _, rfl⟩ := Option.map_eq_some_iff.1 h2
              exact ⟨hpz, hpq⟩
            · rw [if_neg hjj] at h1 h2
              exact hent j' p e h1 h2
          obtain ⟨hR', hE'⟩ := hR.update hi hg rfl _ _ _ hnew s1 s2 s3 rfl rfl rfl
          refine ⟨φ, _, undef, .skip, ?_, .inr ⟨rfl, rfl⟩, hE', hR', .of_tuple (LRel.nil _)⟩
          simp only [Instr.mapUpdate, Sem.run_bind, run_underlying hu, Result.andThen_ok, hgo, hck, hfk, hkts, hso, Sem.run_pure]
      · cases hd
    · cases hd
  · cases hd

/-- 'append', out of whatever source. -/
theorem append_core (hR : Rel P B0 φ H w) (hG : GRel P φ) (hT : TRel φ fr.tmps a.tmps) {t tx ty e : TypeId} {esz bytes : Nat} (ht : P.underlying t = some (.slice e)) (hs : sizeT P e = some esz) (hb : bytesT P e = some bytes) (hz : (cvCells P e).map (·.length) = some esz)
    (h0 : 0 < esz) {vs : DV} {us : Value} (hv : VRel φ vs us) {k : Nat} {new : List DV} {news : List Value} {ux : Value} (hnew : LRel φ new news) (hsrc : okList new = true → Src P esz tx ux k news w)
    {v : DV} (hd : dappend H e esz bytes vs k new = some (v, H')) (hk0 : k = 0 → new = []) :
    ∃ φ' w' u, (Builtin.append_ #[t, tx] ty #[us, ux]).run P w = .ok u w' ∧ Ext B0 φ H w φ' H' w' ∧ Rel P B0 φ' H' w' ∧ VRel φ' v u := by
  have _ := hG
  have _ := hT
  obtain ⟨ti, hti, hsz⟩ := Option.map_eq_some_iff.1 hs
  have hby : ti.bytes = bytes := by simpa [bytesT, hti] using hb
  obtain ⟨zc, hzc, hzl⟩ := Option.map_eq_some_iff.1 hz
  obtain ⟨ti', z, hti', hzz, hzrel⟩ := cvCells_zero (φ := φ) hzc
  rw [hti] at hti'; cases hti'
  have hzsize : z.cells.size = esz := by have := hzrel.1; simp at this; omega
  simp only [dappend] at hd
  split at hd
  · -- no slice yet
    cases hv
    split at hd
    · rename_i hk
      cases hd
      subst hk
      obtain rfl := hk0 rfl
      obtain rfl := hnew.nil_left
      have hrun := run_append_nothing (P := P) w t tx ty e ti ht hti none 0 0 (Nat.le_refl _) ux (by rw [hsz]; exact hsrc rfl)
      exact ⟨φ, w, _, hrun, .refl _ _ _ _, hR, .nilSlice⟩
    · rename_i hk
      split at hd
      · rename_i hc
        obtain ⟨hbb, h62, hok⟩ := hc
        cases hd
        have hS := hsrc hok
        have hrun := run_append_grow_src (P := P) (w := w) t tx ty e ti z ht hti hzz none 0 0 [] (by simp [Builtin.firstCells]) ux k news (by rw [hsz]; exact hS) (by omega) (by omega)
          (by have := nextslicecap_zero (need := 0 + k) (by omega); rw [this, hby, Nat.zero_add]; omega)
        simp only [Nat.zero_add, List.nil_append] at hrun
        have hge := grownCap_ge w k 0 e
        generalize grownCap w k 0 e = cap at *
        have hnl : news.length = k * esz := hS.newsLen
        have hcs : (news.toArray ++ Builtin.zeroCells z.cells (cap - k)).size = cap * esz := by
          simp [Builtin.zeroCells, hzsize, hnl]
          rw [← Nat.add_mul]; congr 1; omega
        have ho : ORel P (φ.with H.next ⟨w.heap.size, 0, cap * esz⟩) ⟨w.heap.size, 0, cap * esz⟩ (.cells new e 0 false false) (.cells (news.toArray ++ Builtin.zeroCells z.cells (cap - k)) e) := by
          have hnn : new.length = k * esz := by rw [hnew.1]; exact hnl
          refine ⟨_, 0, 0, rfl, hcs, ?_, (fun h => nomatch h), ?_, fun _ => ⟨Nat.le_refl _, Nat.zero_le _⟩, fun q h1 h2 => by omega⟩
          · rw [hnn]; simpa using Nat.mul_le_mul_right esz hge
          · have hle : φ.le (φ.with H.next ⟨w.heap.size, 0, cap * esz⟩) := Phi.le_with _ (hR.none_of_ge (Nat.le_refl _))
            simp only [List.drop_zero, Array.toList_append]
            rw [List.take_append_of_le_length (by rw [hnew.1]; simp), List.take_of_length_le (by rw [hnew.1]; simp)]
            exact hnew.mono hle
        have hR0 : Rel P B0 φ H w.drew := hR.congr rfl
        obtain ⟨hR', hE'⟩ := hR0.alloc { own := true, obj := .cells new e 0 false false } (.cells (news.toArray ++ Builtin.zeroCells z.cells (cap - k)) e) (cap * esz) ho
        refine ⟨_, _, _, hrun, ⟨hE'.le, hE'.nxt, hE'.unm, ?_⟩, hR', ?_⟩
        · exact Below.trans ((Below.refl _ _).drew) hE'.below
        · exact .slice _ 0 k esz _ 0 cap (Phi.with_self _ _ _) hge (.inl rfl) (by simp)
      · cases hd
  · -- a slice
    rename_i d off len es
    obtain ⟨i, o', cap, hi, hl, ho', hcs, rfl⟩ : ∃ i o' cap, φ d = some i ∧ len ≤ cap ∧ (o' = i.base + off ∨ (len = 0 ∧ cap = 0)) ∧ i.base + off + cap * es ≤ i.csize ∧ us = .slice (some ⟨i.b, o', none⟩) len cap := by
      cases hv; exact ⟨_, _, _, by assumption, by assumption, by assumption, by assumption, rfl⟩
    split at hd
    · rename_i cs el frz ex mk hg
      split at hd
      · rename_i hc
        obtain ⟨rfl, rfl, rfl, hlen, hfz, hbb, h62, hok⟩ := hc
        cases hd
        have hS := hsrc hok
        have hnl : news.length = k * es := hS.newsLen
        have hnn : new.length = k * es := by rw [hnew.1]; exact hnl
        obtain ⟨ob, hob, c, lo, hi', rfl, hcsz, hfit, hex, hrel, hmk, hfr⟩ := hR.blk d i _ hi hg
        have hbase := (hR.lo d i _ hi hg rfl).2
        have hle : φ.le (φ.with H.next i) := Phi.le_with _ (hR.none_of_ge (Nat.le_refl _))
        simp only [hbase, Nat.zero_add, Nat.add_zero, List.drop_zero] at hcs hfit hrel hex hmk hfr ho'
        by_cases hroom : len + k ≤ cap
        · by_cases hk : k = 0
          · subst hk
            obtain rfl := hk0 rfl
            obtain rfl := hnew.nil_left
            have hrun := run_append_nothing (P := P) w t tx ty el ti ht hti (some ⟨i.b, o', none⟩) len cap hl ux (by rw [hsz]; exact hS)
            have ho : ORel P (φ.with H.next i) i (.cells (cs ++ []) el frz false mk) (.cells c el (lo, hi')) := by
              rw [List.append_nil]
              exact ⟨c, lo, hi', rfl, hcsz, by rw [hbase]; omega, (fun h => nomatch h), by rw [hbase]; exact hrel.mono hle, by rw [hbase, Nat.zero_add]; exact hmk, by rw [hbase, Nat.zero_add]; exact hfr⟩
            obtain ⟨hR', hE'⟩ := hR.move hi hg rfl _ _ w ho rfl hob (fun _ _ => rfl) rfl rfl rfl
            refine ⟨_, _, _, hrun, hE', hR', ?_⟩
            exact .slice _ 0 len es i o' cap (Phi.with_self _ _ _) hl (by rw [hbase]; simpa using ho') (by rw [hbase]; simpa using hcs)
          · have hoo : o' = 0 := by rcases ho' with h | ⟨_, h⟩ <;> omega
            subst hoo
            have hcap2 : (len + k) * es ≤ cap * es := Nat.mul_le_mul_right es hroom
            have hlk : (len + k) * es = len * es + k * es := Nat.add_mul _ _ _
            have hrun := run_append_room_src (P := P) (w := w) t tx ty el ti ht hti i.b 0 len cap ux k news (by rw [hsz]; exact hS) hroom
              (by
                intro j hj
                rw [hsz]
                have : 0 + len * es + j < c.size := by omega
                simp only [World.cell?, hob, Option.isSome_none, Bool.false_eq_true, if_false]
                simp; omega)
              (by
                intro j hj
                rw [hsz]
                simp only [World.frozen?, hob]
                by_cases hq : lo ≤ 0 + len * es + j ∧ 0 + len * es + j < hi'
                · have := hfr _ hq.1 hq.2; omega
                · simp; omega)
            rw [hsz] at hrun
            obtain ⟨g1, g2, g3, g4, g5, g6⟩ := setCells_heap i.b news (0 + len * es) w c el (lo, hi') hob
            have ho : ORel P (φ.with H.next i) i (.cells (cs ++ new) el frz false mk) (.cells (putAt c.toList (0 + len * es) news).toArray el (lo, hi')) := by
              refine ⟨_, lo, hi', rfl, by simp [putAt_length, hcsz], by rw [hbase, List.length_append]; omega, (fun h => nomatch h), ?_, by rw [hbase, Nat.zero_add]; exact hmk, by rw [hbase, Nat.zero_add]; exact hfr⟩
              rw [hbase]
              simp only [List.drop_zero]
              refine ⟨by simp [putAt_length]; omega, fun j v u h1 h2 => ?_⟩
              rw [List.getElem?_take] at h2
              split at h2
              · rename_i hjl
                rw [List.length_append] at hjl
                rw [putAt_get] at h2
                by_cases hin : j < cs.length
                · rw [List.getElem?_append_left hin] at h1
                  rw [if_neg (by omega)] at h2
                  exact (hrel.2 j v u h1 (by rw [List.getElem?_take, if_pos hin]; exact h2)).mono hle
                · rw [List.getElem?_append_right (by omega)] at h1
                  rw [if_pos (by refine ⟨by omega, by omega, ?_⟩; simp; omega)] at h2
                  exact (hnew.2 (j - cs.length) v u h1 (by rw [← h2]; congr 1; omega)).mono hle
              · exact nomatch h2
            obtain ⟨hR', hE'⟩ := hR.move hi hg rfl _ _ _ ho g3 g1 g2 g4 g5 g6
            refine ⟨_, _, _, hrun, hE', hR', ?_⟩
            exact .slice _ 0 (len + k) es i 0 cap (Phi.with_self _ _ _) hroom (.inl (by rw [hbase])) (by rw [hbase]; simpa using hcs)
        · -- a new row
          obtain ⟨olds, hol, horel, hoc⟩ := row_cells (n := len * es) (off := 0) hR hi (show H.row d = some cs from by simp [DH.row, hg]) (by omega)
          simp only [List.drop_zero] at horel
          rw [List.take_of_length_le (by omega)] at horel
          have hold : (Builtin.firstCells ti.size len (.slice (some ⟨i.b, o', none⟩) len cap)).run P w.drew = .ok olds.toArray w.drew := by
            rw [hsz]
            refine run_firstCells_some (P := P) w.drew es len ⟨i.b, o', none⟩ len cap olds hol ?_
            intro j u hj
            rcases ho' with h | ⟨h, _⟩
            · subst h
              have := hoc j u hj
              rw [hbase] at this
              simpa using this
            · subst h
              simp at hol
              subst hol
              simp at hj
          have hrun := run_append_grow_src (P := P) (w := w) t tx ty el ti z ht hti hzz (some ⟨i.b, o', none⟩) len cap olds hold ux k news (by rw [hsz]; exact hS) (by omega) (by omega)
            (by
              have := nextslicecap_le (need := len + k) (old := cap) (by omega)
              have := Nat.mul_le_mul_right ti.bytes this
              rw [hby] at this ⊢
              have e2 : 2 * (len + k) * bytes = 2 * ((len + k) * bytes) := Nat.mul_assoc _ _ _
              omega)
          have hge := grownCap_ge w (len + k) cap el
          generalize grownCap w (len + k) cap el = cap' at *
          have hlk : (len + k) * es = len * es + k * es := Nat.add_mul _ _ _
          have hcs' : ((olds ++ news).toArray ++ Builtin.zeroCells z.cells (cap' - (len + k))).size = cap' * es := by
            simp [Builtin.zeroCells, hzsize, hnl, hol]
            rw [← hlk, ← Nat.add_mul]; congr 1; omega
          have hR0 : Rel P B0 φ H w.drew := hR.congr rfl
          obtain ⟨hRd, hEd⟩ := hR0.del hi
          have hle2 : φ.le (φ.with H.next ⟨w.heap.size, 0, cap' * es⟩) := Phi.le_with _ (hR.none_of_ge (Nat.le_refl _))
          have ho : ORel P (φ.with (H.del d).next ⟨w.drew.heap.size, 0, cap' * es⟩) ⟨w.drew.heap.size, 0, cap' * es⟩ (.cells (cs ++ new) el frz false mk)
              (.cells ((olds ++ news).toArray ++ Builtin.zeroCells z.cells (cap' - (len + k))) el) := by
            have hll := horel.append hnew
            have hsum : (cs ++ new).length = (len + k) * es := by rw [List.length_append]; omega
            refine ⟨_, 0, 0, rfl, hcs', ?_, (fun h => nomatch h), ?_, fun _ => ⟨Nat.le_refl _, Nat.zero_le _⟩, fun q h1 h2 => by omega⟩
            · rw [hsum]; simpa using Nat.mul_le_mul_right es hge
            · simp only [List.drop_zero, Array.toList_append]
              rw [List.take_append_of_le_length (by rw [hll.1]; simp), List.take_of_length_le (by rw [hll.1]; simp)]
              exact hll.mono hle2
          obtain ⟨hR', hE'⟩ := hRd.alloc { own := true, obj := .cells (cs ++ new) el frz false mk } _ (cap' * es) ho
          have hEE := hEd.trans hE'
          refine ⟨_, _, _, hrun, ⟨hEE.le, hEE.nxt, hEE.unm, ?_⟩, hR', ?_⟩
          · exact Below.trans ((Below.refl _ _).drew) hEE.below
          · exact .slice _ 0 (len + k) es _ 0 cap' (Phi.with_self _ _ _) hge (.inl rfl) (by simp)
      · cases hd
    · cases hd
  · cases hd
end
end Go.Proofs.YtfmmgggdgpfaaaaGreatDoor.DS
