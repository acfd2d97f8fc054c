/- What an operation looks at. -/
import Derived.Test.YtfmmgggdgpfaaaaGreatDoorDtr
import Derived.Test.YtfmmgggdgpfaaaaGreatDoorDcomp
namespace Go.Proofs.YtfmmgggdgpfaaaaGreatDoor.DS
set_option linter.unusedVariables false
set_option linter.unusedSimpArgs false

/-- A memory that holds at least what another holds. -/
def HLe (H K : DH) : Prop := ∀ d b, H.get d = some b → K.get d = some b

theorem HLe.row {H K : DH} (h : HLe H K) {d : Nat} {cs : List DV} (e : H.row d = some cs) : K.row d = some cs := by
  unfold DH.row at e ⊢
  cases hg : H.get d with
  | none => rw [hg] at e; simp at e
  | some b => rw [hg] at e; rw [h d b hg]; exact e

theorem HLe.dents {H K : DH} (h : HLe H K) {v : DV} {es : List (DV × DV)} (e : dents H v = some es) : dents K v = some es := by
  cases v <;> simp only [Go.Proofs.YtfmmgggdgpfaaaaGreatDoor.DS.dents, reduceCtorEq] at e ⊢
  · exact e
  · rename_i d
    cases hg : H.get d with
    | none => rw [hg] at e; simp at e
    | some b => rw [hg] at e; rw [h d b hg]; exact e

theorem mapOpt {ρ ρ' : DOpd → DV} {o : Option DOpd} (h : ∀ x ∈ o.toList, ρ x = ρ' x) : o.map ρ = o.map ρ' := by
  cases o with
  | none => rfl
  | some x => simp [h x (by simp)]
theorem mapL {ρ ρ' : DOpd → DV} {l : List DOpd} (h : ∀ x ∈ l, ρ x = ρ' x) : l.map ρ = l.map ρ' := List.map_congr_left h
theorem mapP {ρ ρ' : DOpd → DV} {l : List ((Nat × Nat) × DOpd)} (h : ∀ x ∈ l.map (·.2), ρ x = ρ' x) : (l.map fun p => (p.1, ρ p.2)) = l.map fun p => (p.1, ρ' p.2) :=
  List.map_congr_left fun p hp => by rw [h p.2 (List.mem_map.2 ⟨p, hp, rfl⟩)]

theorem dop_congr {P : Program} {ρ ρ' : DOpd → DV} {H : DH} {op : DOp} (h : ∀ x ∈ op.opds, ρ x = ρ' x) : dop P ρ H op = dop P ρ' H op := by
  cases op
  case build z ps => simp only [DOp.opds] at h; simp only [dop, dop_build, mapP h]
  case buildSlice a b c d ps => simp only [DOp.opds] at h; simp only [dop, da_buildSlice, mapP h]
  case mkFunc f as bs =>
    simp only [DOp.opds, List.mem_append] at h
    simp only [dop, dop_mkFunc, mapL fun x hx => h x (.inl hx), mapL fun x hx => h x (.inr hx)]
  case sliceStr x lo hi =>
    simp only [DOp.opds, List.mem_cons, List.mem_append] at h
    simp only [dop, dop_sliceStr, h x (.inl rfl), mapOpt fun y hy => h y (.inr (.inl hy)), mapOpt fun y hy => h y (.inr (.inr hy))]
  case sliceSl e x lo hi =>
    simp only [DOp.opds, List.mem_cons, List.mem_append] at h
    simp only [dop, dop_sliceSl, h x (.inl rfl), mapOpt fun y hy => h y (.inr (.inl hy)), mapOpt fun y hy => h y (.inr (.inr hy))]
  case sliceArr n e x lo hi =>
    simp only [DOp.opds, List.mem_cons, List.mem_append] at h
    simp only [dop, dop_sliceArr, h x (.inl rfl), mapOpt fun y hy => h y (.inr (.inl hy)), mapOpt fun y hy => h y (.inr (.inr hy))]
  case call f as =>
    simp only [DOp.opds, List.mem_cons] at h
    simp only [dop, dop_call, h f (.inl rfl), mapL fun y hy => h y (.inr hy)]
  case defer f as =>
    simp only [DOp.opds, List.mem_cons] at h
    simp only [dop, dop_defer, h f (.inl rfl), mapL fun y hy => h y (.inr hy)]
  case maxmin b as => simp only [DOp.opds] at h; simp only [dop, dop_maxmin, mapL h]
  case ext b as => simp only [DOp.opds] at h; simp only [dop, dop_ext, mapL h]
  all_goals
    simp only [DOp.opds, List.mem_cons, List.not_mem_nil, or_false] at h
    first
    | rfl
    | (have h1 := h _ rfl
       simp only [dop, dop_move, da_box, dop_load, dop_nilCheck, dop_un, dop_convInt, dop_convStr, da_bytesOf, dop_runeStr, dop_toRaw, dop_ofRaw, dop_mkIface, dop_addr, dop_field, dop_assertC, dop_extract, dop_len, dop_sliceData, dop_panic, h1]
       done)
    | (have h1 := h _ (.inl rfl)
       have h2 := h _ (.inr rfl)
       simp only [dop, dop_store, dop_bin, dop_eq, da_mkSlice, dop_idxSl, dop_idxArrP, dop_idxStr, dop_idxArr, dop_lookup, dop_append, dop_appendStr, dop_rawStr, h1, h2]
       done)
    | (have h1 := h _ (.inl rfl)
       have h2 := h _ (.inr (.inl rfl))
       have h3 := h _ (.inr (.inr rfl))
       simp only [dop, dop_pick, dop_mapSet, h1, h2, h3]
       done)

theorem dop_fin {H H' : DH} {x : DNx} {b : Bool} {f : DH → Option (DNx × DH)} (hx : H' = H ∧ (∃ v, x = .val v) ∧ ∀ K, f K = some (x, K)) :
    H' = H ∧ (∃ v, x = .val v) ∧ (∀ K, HLe H K → f K = some (x, K)) ∧ (b = false → ∀ K, f K = some (x, K)) :=
  ⟨hx.1, hx.2.1, fun K _ => hx.2.2 K, fun _ K => hx.2.2 K⟩

/-- What is quiet and makes nothing leaves memory. -/
theorem dop_quiet {P : Program} {ρ : DOpd → DV} {H H' : DH} {op : DOp} {x : DNx} (ha : op.acts = false) (hm : op.makes = false) (h : dop P ρ H op = some (x, H')) :
    H' = H ∧ (∃ v, x = .val v) ∧ (∀ K, HLe H K → dop P ρ K op = some (x, K)) ∧ (op.looks = false → ∀ K, dop P ρ K op = some (x, K)) := by
  cases op <;> simp only [DOp.acts, DOp.makes, Bool.true_eq_false, reduceCtorEq] at ha hm
  case load agg n a =>
    simp only [dop, dop_load, Option.map_eq_some_iff, Prod.mk.injEq] at h ⊢
    obtain ⟨v, h1, rfl, rfl⟩ := h
    refine ⟨rfl, ⟨v, rfl⟩, fun K hK => ⟨v, ?_, rfl, trivial⟩, fun hl => by simp [DOp.looks] at hl⟩
    unfold dload at h1 ⊢
    split at h1
    · rename_i d off e
      cases hr : H.row d with
      | none => rw [hr] at h1; simp at h1
      | some cs => rw [hr] at h1; simp only [hK.row hr]; exact h1
    · cases h1
  case lookup kt ok z a b =>
    simp only [dop, dop_lookup] at h ⊢
    cases hd : dents H (ρ a) with
    | none => rw [hd] at h; simp at h
    | some es =>
      rw [hd] at h
      simp only at h
      split at h
      · rename_i hk
        simp only [Option.map_eq_some_iff, Prod.mk.injEq] at h
        obtain ⟨r, h1, rfl, rfl⟩ := h
        refine ⟨rfl, ⟨_, rfl⟩, fun K hK => ?_, fun hl => by simp [DOp.looks] at hl⟩
        simp [hK.dents hd, hk, h1]
      · cases h
  case len k a =>
    simp only [dop, dop_len, Option.map_eq_some_iff, Prod.mk.injEq] at h ⊢
    obtain ⟨v, h1, rfl, rfl⟩ := h
    refine ⟨rfl, ⟨v, rfl⟩, fun K hK => ⟨v, ?_, rfl, trivial⟩, fun hl => by simp [DOp.looks] at hl⟩
    unfold dlen at h1 ⊢
    split at h1
    · exact h1
    · exact h1
    · exact h1
    · obtain ⟨es, h2, rfl⟩ := Option.map_eq_some_iff.1 h1
      simp [hK.dents h2]
    · cases h1
  case toRaw a =>
    simp only [dop, dop_toRaw] at h ⊢
    split at h
    · rename_i d o e
      cases hr : H.row d with
      | none => rw [hr] at h; simp at h
      | some cs =>
        rw [hr] at h
        simp only at h
        split at h
        · rename_i hlt
          cases h
          exact ⟨rfl, ⟨_, rfl⟩, fun K hK => by simp [hK.row hr, hlt], fun hl => by simp [DOp.looks] at hl⟩
        · cases h
    · cases h
  case ofRaw u a =>
    simp only [dop, dop_ofRaw] at h ⊢
    split at h
    · rename_i d o e
      cases hr : H.get d with
      | none => rw [hr] at h; simp at h
      | some b =>
        rw [hr] at h
        have hx : H' = H ∧ ∃ v, x = .val v := by
          split at h
          · split at h
            · cases h; exact ⟨rfl, _, rfl⟩
            · cases h
          · cases h
        refine ⟨hx.1, hx.2, fun K hK => ?_, fun hl => by simp [DOp.looks] at hl⟩
        simp only [hK d b hr]
        obtain ⟨rfl, v, rfl⟩ := hx
        split at h
        · rename_i heq
          split at h
          · rename_i hlt
            cases h
            cases heq
            simp [hlt]
          · cases h
        · cases h
    · cases h
  case sliceArr n e a lo hi =>
    simp only [dop, dop_sliceArr] at h ⊢
    split at h
    · rename_i d o he
      cases hr : H.row d with
      | none => rw [hr] at h; simp at h
      | some cs =>
        rw [hr] at h
        simp only at h
        split at h
        · rename_i hlt
          simp only [Option.map_eq_some_iff, Prod.mk.injEq] at h
          obtain ⟨⟨l, hh⟩, h1, h2⟩ := h
          simp only [Prod.mk.injEq] at h2
          obtain ⟨rfl, rfl⟩ := h2
          exact ⟨rfl, ⟨_, rfl⟩, fun K hK => by simp [hK.row hr, hlt, h1], fun hl => by simp [DOp.looks] at hl⟩
        · cases h
    · cases h
  all_goals
    refine dop_fin ?_
    simp only [dop, dop_move, dop_pick, dop_build, dop_nilCheck, dop_bin, dop_eq, dop_un, dop_convInt, dop_convStr, dop_runeStr, dop_mkIface, dop_mkFunc, dop_sliceStr, dop_sliceSl, dop_addr, dop_field, dop_idxSl, dop_idxArrP, dop_idxStr, dop_idxArr,
      dop_assertC, dop_extract, dop_maxmin, dop_sliceData, Option.map_eq_some_iff, Option.some.injEq, Prod.mk.injEq] at h ⊢
    (repeat' split at h) <;> simp_all <;> (try grind)
end Go.Proofs.YtfmmgggdgpfaaaaGreatDoor.DS
