/- Calls known beforehand: run once on the package's variables alone. -/
import Derived.Test.YtfmmgggdgpfaaaaGreatDoorDsound
namespace Go.Proofs.YtfmmgggdgpfaaaaGreatDoor.DS
open Go.RowKit (Below)
set_option linter.unusedVariables false
set_option linter.unusedSimpArgs false

/-- Holds no address. -/
def DV.flat : DV → Bool
  | .bool _ | .int .. | .str _ | .nilPtr | .nilSlice | .nilMap | .nilFunc | .nilIface => true
  | _ => false

theorem VRel.flat {φ ψ : Phi} {v : DV} {u : Value} (hf : v.flat = true) (h : VRel φ v u) : VRel ψ v u := by
  cases h <;> simp only [DV.flat, Bool.false_eq_true] at hf
  · exact .bool _
  · exact .int _ _
  · exact .str _
  · exact .nilPtr
  · exact .nilSlice
  · exact .nilMap
  · exact .nilFunc
  · exact .nilIface

theorem LRel.flat {φ ψ : Phi} {l : List DV} {us : List Value} (hf : l.all DV.flat = true) (h : LRel φ l us) : LRel ψ l us :=
  ⟨h.1, fun j v u h1 h2 => (h.2 j v u h1 h2).flat (List.all_eq_true.1 hf v (List.mem_of_getElem? h1))⟩

def DObj.flat : DObj → Bool
  | .cells cs _ _ _ _ => cs.all DV.flat
  | _ => false

theorem ORel.flat {P : Program} {φ ψ : Phi} {i : PI} {x : DObj} {o : Obj} (hf : x.flat = true) (h : ORel P φ i x o) : ORel P ψ i x o := by
  cases x with
  | cells cs e frz ex mk =>
    obtain ⟨c, lo, hi, h1, h2, h3, h4, h5, h6⟩ := h
    exact ⟨c, lo, hi, h1, h2, h3, h4, h5.flat hf, h6⟩
  | _ => simp [DObj.flat] at hf

section
variable {P : Program} {B0 : Nat} {φ : Phi} {H : DH} {w w' : World}

theorem Rel.later (h : Rel P B0 φ H w) (hb : Below w.heap.size w w') : Rel P B0 φ H w' := by
  refine ⟨fun d i B h1 h2 => ?_, h.sep, h.lo, h.dom, Nat.le_trans h.sz hb.size⟩
  obtain ⟨o, h3, h4⟩ := h.blk d i B h1 h2
  exact ⟨o, (hb.block _ (h.lt_size h1 h2)).trans h3, h4⟩

theorem Below.down {n m : Nat} (hnm : n ≤ m) (hb : Below m w w') : Below n w w' := ⟨hb.os, hb.tape, hb.output, hb.size, fun k hk => hb.block k (Nat.lt_of_lt_of_le hk hnm)⟩

theorem Ext.later (h : Rel P B0 φ H w) (hb : Below w.heap.size w w') : Ext B0 φ H w φ H w' := ⟨φ.le_refl, Nat.le_refl _, fun _ _ e => ⟨e, rfl⟩, Below.down h.sz hb⟩

/-- The package's variables alone. -/
def glob (P : Program) (φ : Phi) : Phi := fun d => if d < P.globals.size then φ d else none
theorem glob_g (hG : GRel P φ) : GRel P (glob P φ) := fun g hg => by
  obtain ⟨n, hn⟩ := hG g hg
  exact ⟨n, by simp [glob, hg, hn]⟩

/-- A memory of variables that hold no address. -/
def Sub (P : Program) (HG H : DH) : Prop := HG.next = P.globals.size ∧ ∀ d B, HG.get d = some B → H.get d = some B ∧ B.own = false ∧ B.obj.flat = true

theorem rel_glob (hR : Rel P B0 φ H w) {HG : DH} (hs : Sub P HG H) : Rel P w.heap.size (glob P φ) HG w := by
  have hg : ∀ {d i}, glob P φ d = some i → φ d = some i ∧ d < P.globals.size := by
    intro d i h
    unfold glob at h
    split at h
    · rename_i hlt; exact ⟨h, hlt⟩
    · cases h
  refine ⟨fun d i B h1 h2 => ?_, fun d d' i i' B B' _ _ h2 _ hown => ?_, fun d i B _ h2 hown => ?_, fun d i h1 => ?_, Nat.le_refl _⟩
  · obtain ⟨h3, h4, h5⟩ := hs.2 d B h2
    obtain ⟨o, h6, h7⟩ := hR.blk d i B (hg h1).1 h3
    exact ⟨o, h6, h7.flat h5⟩
  · rw [(hs.2 d B h2).2.1] at hown; cases hown
  · rw [(hs.2 d B h2).2.1] at hown; cases hown
  · rw [hs.1]; exact (hg h1).2

variable {X : Tgt → DH → Option (DEnd × Bool × DH)} {D : FuncId → Option DFunc} {n : Nat} {f : FuncId} {args : List DV} {HG HG' : DH}

/-- What answers a value without address. -/
theorem prim_flat (hrec : RecOK P (drun X P D n)) (hargs : args.all DV.flat = true) {v : DV} (hv : v.flat = true) (hrun : drun X P D n (.fn false none f args) HG = some (.ret v, false, HG')) (hs : Sub P HG H) :
    TgtOK P (.fn false none f args) H (.ret v) false H ∧ (dprog P f).isSome = true := by
  obtain ⟨hT, hp⟩ := hrec _ _ _ _ _ hrun
  refine ⟨fun B0 φ args' w hR hG hl cs => ?_, hp⟩
  obtain ⟨φ', w', fr, e', h1, h2, h3, h4, h5, h6⟩ := hT w.heap.size (glob P φ) args' w (rel_glob hR hs) (glob_g hG) (hl.flat hargs) cs
  refine ⟨φ, w', fr, e', Ext.later hR h1.below, hR.later h1.below, ?_, h4, h5, h6⟩
  cases e' <;> simp only [EndRel] at h3 ⊢
  exact h3.flat hv

/-- What answers a new row of such values. -/
theorem prim_slice (hrec : RecOK P (drun X P D n)) (hargs : args.all DV.flat = true) {d off len esz : Nat} {B : DBlk} (hrun : drun X P D n (.fn false none f args) HG = some (.ret (.slice d off len esz), false, HG'))
    (hB : HG'.get d = some B) (hown : B.own = true) (hf : B.obj.flat = true) (hs : Sub P HG H) :
    TgtOK P (.fn false none f args) H (.ret (.slice H.next off len esz)) false (H.new B) ∧ (dprog P f).isSome = true := by
  obtain ⟨hT, hp⟩ := hrec _ _ _ _ _ hrun
  refine ⟨fun B0 φ args' w hR hG hl cs => ?_, hp⟩
  obtain ⟨φ', w', fr, e', h1, h2, h3, h4, h5, h6⟩ := hT w.heap.size (glob P φ) args' w (rel_glob hR hs) (glob_g hG) (hl.flat hargs) cs
  cases e' <;> simp only [EndRel] at h3
  rename_i u
  have hRl := hR.later h1.below
  generalize hvv : DV.slice d off len esz = vv at h3
  cases h3 <;> cases hvv
  rename_i i o cap hφ hl1 ho hc
  obtain ⟨hlo, hbase⟩ := h2.lo d i B hφ hB hown
  obtain ⟨ob, hob, hO⟩ := h2.blk d i B hφ hB
  have hnone : φ H.next = none := hR.none_of_ge (Nat.le_refl _)
  have hle : φ.le (φ.with H.next i) := Phi.le_with _ hnone
  refine ⟨φ.with H.next i, w', fr, .returned _, ⟨hle, by rw [DH.next_new]; omega, fun x hx hn => ⟨by rw [Phi.with_ne _ _ (by omega)]; exact hn, by rw [DH.get_new, if_neg (by omega)]⟩, Below.down hR.sz h1.below⟩, ⟨?_, ?_, ?_, ?_, hRl.sz⟩,
    .slice H.next off len esz i o cap (Phi.with_self _ _ _) hl1 ho hc, h4, h5, h6⟩
  · intro x j B' e1 e2
    rw [DH.get_new] at e2
    by_cases e : x = H.next
    · subst e
      rw [Phi.with_self] at e1; cases e1
      rw [if_pos rfl] at e2; cases e2
      exact ⟨ob, hob, hO.flat hf⟩
    · rw [Phi.with_ne _ _ e] at e1
      rw [if_neg e] at e2
      obtain ⟨o', e3, e4⟩ := hRl.blk x j B' e1 e2
      exact ⟨o', e3, e4.mono hle⟩
  · intro x y j j' B1 B2 e1 e1' e2 e2' hown' hne
    rw [DH.get_new] at e2 e2'
    by_cases e : x = H.next
    · subst e
      rw [Phi.with_self] at e1; cases e1
      rw [Phi.with_ne _ _ (fun z => hne z.symm)] at e1'
      rw [if_neg (fun z => hne z.symm)] at e2'
      have := hR.lt_size e1' e2'
      omega
    · by_cases e' : y = H.next
      · subst e'
        rw [Phi.with_self] at e1'; cases e1'
        rw [Phi.with_ne _ _ e] at e1
        rw [if_neg e] at e2
        have := hR.lt_size e1 e2
        omega
      · rw [Phi.with_ne _ _ e] at e1
        rw [Phi.with_ne _ _ e'] at e1'
        rw [if_neg e] at e2
        rw [if_neg e'] at e2'
        exact hRl.sep x y j j' B1 B2 e1 e1' e2 e2' hown' hne
  · intro x j B' e1 e2 hown'
    rw [DH.get_new] at e2
    by_cases e : x = H.next
    · subst e
      rw [Phi.with_self] at e1; cases e1
      exact ⟨Nat.le_trans hR.sz hlo, hbase⟩
    · rw [Phi.with_ne _ _ e] at e1
      rw [if_neg e] at e2
      exact hRl.lo x j B' e1 e2 hown'
  · intro x j e1
    rw [DH.next_new]
    by_cases e : x = H.next
    · omega
    · rw [Phi.with_ne _ _ e] at e1
      have := hR.dom x j e1; omega
end
end Go.Proofs.YtfmmgggdgpfaaaaGreatDoor.DS
