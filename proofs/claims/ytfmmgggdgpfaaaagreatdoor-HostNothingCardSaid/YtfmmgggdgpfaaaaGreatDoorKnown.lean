/- What is known beforehand is so. -/
import Derived.Test.YtfmmgggdgpfaaaaGreatDoorKept
import Derived.Test.YtfmmgggdgpfaaaaGreatDoorDprim
import Derived.Test.YtfmmgggdgpfaaaaGreatDoorChecked
namespace Go.Proofs.YtfmmgggdgpfaaaaGreatDoor.DS
set_option linter.unusedVariables false
set_option linter.unusedSimpArgs false
open Go.Proofs
open Go.RowKit (Below)

theorem beqs_eq : ∀ (us vs : List DV), DV.beqs us vs = true → us = vs
  | [], [], _ => rfl
  | [], _ :: _, h => by simp [DV.beqs] at h
  | _ :: _, [], h => by simp [DV.beqs] at h
  | a :: l, b :: m, h => by
    simp only [DV.beqs, Bool.and_eq_true] at h
    rw [VRel_beq _ _ h.1, beqs_eq l m h.2]

theorem globals9 : Tryz.prog.globals.size = 9 := by kernel_rfl
theorem ascFlat : ascBlk.obj.flat = true := by kernel_rfl
theorem keptFlat : keptBlk.obj.flat = true := by kernel_rfl
theorem mixed : Tryz.prog.follows .mixedOrders = true := Tryz.checked.mixed

theorem get_HG (d : Nat) : HG.get d = if d = 1 then some ascBlk else none := by
  show (Tr.put .nil 1 ascBlk).get d = _
  rw [Tr.get_put]; rfl

theorem isAsc_spec {H : DH} (h : isAsc H = true) : Sub Tryz.prog HG H := by
  refine ⟨globals9.symm, fun d B hB => ?_⟩
  rw [get_HG] at hB
  split at hB
  · rename_i hd
    subst hd
    cases hB
    refine ⟨?_, rfl, ascFlat⟩
    unfold isAsc at h
    split at h
    · rename_i own cs e frz ex mk hg
      simp only [Bool.and_eq_true, Bool.not_eq_true'] at h
      obtain ⟨⟨⟨⟨⟨h1, h2⟩, h3⟩, h4⟩, h5⟩, h6⟩ := h
      have h2 := beqs_eq _ _ h2
      have h3 := Nat.eq_of_beq_eq_true h3
      have h4 := Nat.eq_of_beq_eq_true h4
      subst h1; subst h2; subst h3; subst h4; subst h5; subst h6
      exact hg
    · cases h
  · cases hB

theorem fields_spec : ∃ d H', fieldsRun = some (.ret (.slice d 0 49 1), false, H') ∧ H'.get d = some keptBlk := by
  have h := fields_ran
  generalize fieldsRun = r at h
  unfold fieldsRight at h
  split at h
  · rename_i d off len esz recd H'
    simp only [Bool.and_eq_true, Bool.not_eq_true'] at h
    obtain ⟨⟨⟨⟨h1, h2⟩, h3⟩, h4⟩, h5⟩ := h
    have h2 := Nat.eq_of_beq_eq_true h2
    have h3 := Nat.eq_of_beq_eq_true h3
    have h4 := Nat.eq_of_beq_eq_true h4
    subst h1; subst h2; subst h3; subst h4
    split at h5
    · rename_i own cs e frz ex mk hg
      simp only [Bool.and_eq_true, Bool.not_eq_true'] at h5
      obtain ⟨⟨⟨⟨⟨g1, g2⟩, g3⟩, g4⟩, g5⟩, g6⟩ := h5
      have g2 := beqs_eq _ _ g2
      have g3 := Nat.eq_of_beq_eq_true g3
      have g4 := Nat.eq_of_beq_eq_true g4
      subst g1; subst g2; subst g3; subst g4; subst g5; subst g6
      exact ⟨d, H', rfl, hg⟩
    · cases h5
  · cases h

theorem isTrue_spec {r : Option (DEnd × Bool × DH)} (h : isTrue r = true) : ∃ H', r = some (.ret (.bool true), false, H') := by
  unfold isTrue at h
  split at h
  · rename_i b recd H'
    simp only [Bool.and_eq_true, Bool.not_eq_true'] at h
    obtain ⟨rfl, rfl⟩ := h
    exact ⟨H', rfl⟩
  · cases h

theorem X2_ok : RecOK Tryz.prog X2 := by
  intro t H e recd H' h
  unfold X2 at h
  split at h
  · rename_i H0 f s
    cases hb : (Nat.beq f 88 && (s == keptText) && isAsc H) with
    | false => rw [hb] at h; cases h
    | true =>
      rw [hb] at h
      simp only [cond_true, Option.some.injEq, Prod.mk.injEq] at h
      obtain ⟨rfl, rfl, rfl⟩ := h
      simp only [Bool.and_eq_true, beq_iff_eq] at hb
      obtain ⟨⟨h1, rfl⟩, h3⟩ := hb
      have h1 := Nat.eq_of_beq_eq_true h1
      subst h1
      obtain ⟨d, H2, hr, hB⟩ := fields_spec
      exact prim_slice (drun_ok mixed (fun _ _ h => h) noX_ok 1000) rfl hr hB rfl keptFlat (isAsc_spec h3)
  · cases h

theorem X3_ok : RecOK Tryz.prog X3 := by
  intro t H e recd H' h
  unfold X3 at h
  split at h
  · rename_i H0 f
    cases hb : (Nat.beq f 4 && isAsc H) with
    | false => rw [hb] at h; cases h
    | true =>
      rw [hb] at h
      simp only [cond_true, Option.some.injEq, Prod.mk.injEq] at h
      obtain ⟨rfl, rfl, rfl⟩ := h
      simp only [Bool.and_eq_true] at hb
      obtain ⟨h1, h3⟩ := hb
      have h1 := Nat.eq_of_beq_eq_true h1
      subst h1
      obtain ⟨H2, hr⟩ := isTrue_spec awake_ran
      exact prim_flat (drun_ok mixed (fun _ _ h => h) X2_ok 1000) rfl rfl hr (isAsc_spec h3)
  · cases h

/-- The walk: whatever the name, HostNothing answers true, and what lay there lies as it did. -/
theorem walk (a0 : ByteArray) (w : World) {c : Array Value} {lo hi : Nat} (h1 : w.heap[1]? = some (.cells c 168 (lo, hi))) (h2 : LRel (fun _ => none) asciiCells c.toList) :
    Calls Tryz.prog 3 #[.string a0] w fun e w' => e = .returned (.bool true) ∧ Below w.heap.size w w' := by
  let φ : Phi := fun d => if d < 9 then some ⟨d, 0, c.size⟩ else none
  have hG : GRel Tryz.prog φ := fun g hg => ⟨c.size, by rw [globals9] at hg; simp [φ, hg]⟩
  have hf : asciiCells.all DV.flat = true := by kernel_rfl
  have hlen : asciiCells.length = c.size := by have := h2.1; simpa using this
  have hR : Rel Tryz.prog w.heap.size φ HG w := by
    refine ⟨fun d i B e1 e2 => ?_, fun d d' i i' B B' _ _ e2 _ hown => ?_, fun d i B _ e2 hown => ?_, fun d i e1 => ?_, Nat.le_refl _⟩
    · rw [get_HG] at e2
      split at e2
      · rename_i hd
        subst hd
        cases e2
        have : i = ⟨1, 0, c.size⟩ := by simpa [φ] using e1.symm
        subst this
        refine ⟨_, h1, c, lo, hi, rfl, rfl, by simp [hlen], fun h => (by cases h), ?_, fun h => (by cases h), fun q _ _ => ?_⟩
        · have : (c.toList.drop 0).take asciiCells.length = c.toList := by rw [hlen, List.drop_zero]; exact List.take_of_length_le (by simp)
          rw [this]; exact h2.flat hf
        · have : c.size = 256 := by rw [← hlen]; kernel_rfl
          show q < 0 + 256 ∨ c.size ≤ q
          omega
      · cases e2
    · rw [get_HG] at e2
      split at e2
      · cases e2; cases hown
      · cases e2
    · rw [get_HG] at e2
      split at e2
      · cases e2; cases hown
      · cases e2
    · show d < 9
      simp only [φ] at e1
      split at e1
      · assumption
      · cases e1
  obtain ⟨H', hr⟩ := isTrue_spec (nothing_ran a0.data.toList)
  refine (calls_of_drun mixed (fun _ _ h => h) X3_ok hr hR hG (LRel.cons (.str a0) (LRel.nil _))).mono fun e w' he => ?_
  obtain ⟨φ', u, rfl, hv, hE, _⟩ := he
  cases hv
  exact ⟨rfl, hE.below⟩
#print axioms walk
end Go.Proofs.YtfmmgggdgpfaaaaGreatDoor.DS
