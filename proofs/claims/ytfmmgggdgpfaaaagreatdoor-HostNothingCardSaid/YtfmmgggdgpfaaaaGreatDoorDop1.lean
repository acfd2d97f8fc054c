/- The quiet operations of the twin are those of the model. -/
import Derived.Test.YtfmmgggdgpfaaaaGreatDoorDrel
namespace Go.Proofs.YtfmmgggdgpfaaaaGreatDoor.DS
set_option linter.unusedVariables false
set_option linter.unusedSimpArgs false
open Go.RowKit (Below)

theorem mapM_opt {α β : Type} (f : α → Option β) : ∀ (l : List α) (l' : List β), l.mapM f = some l' → l'.length = l.length ∧ ∀ (j : Nat) (x : α) (y : β), l[j]? = some x → l'[j]? = some y → f x = some y
  | [], l', h => by
    simp at h; subst h
    exact ⟨rfl, fun j x y h1 => by simp at h1⟩
  | a :: l, l', h => by
    rw [List.mapM_cons] at h
    cases hf : f a with
    | none => simp [hf] at h
    | some b =>
      cases hm : l.mapM f with
      | none => simp [hf, hm] at h
      | some m =>
        simp [hf, hm] at h
        subst h
        have ih := mapM_opt f l m hm
        refine ⟨by simp [ih.1], fun j x y h1 h2 => ?_⟩
        cases j with
        | zero => simp at h1 h2; subst h1; subst h2; exact hf
        | succ j => simp at h1 h2; exact ih.2 j x y h1 h2

theorem cv_rel (φ : Phi) : ∀ (n : Nat) (u : Value) (v : DV), cv n u = some v → VRel φ v u := by
  intro n
  induction n with
  | zero =>
    intro u v h
    unfold cv at h
    split at h
    case h_9 heq => cases heq
    case h_10 heq => cases heq
    case h_11 heq => cases heq
    all_goals first
      | (cases h; constructor)
      | (cases h; done)
  | succ n ih =>
    intro u v h
    unfold cv at h
    split at h
    case h_9 heq =>
      obtain rfl := Nat.succ.inj heq
      obtain ⟨x, hx, rfl⟩ := Option.map_eq_some_iff.1 h
      exact .iface _ _ _ (ih _ _ hx)
    case h_10 heq =>
      obtain rfl := Nat.succ.inj heq
      obtain ⟨x, hx, rfl⟩ := Option.map_eq_some_iff.1 h
      have hm := mapM_opt _ _ _ hx
      exact .of_agg ⟨hm.1, fun j v u h1 h2 => ih _ _ (hm.2 j u v h2 h1)⟩
    case h_11 heq =>
      obtain rfl := Nat.succ.inj heq
      obtain ⟨x, hx, rfl⟩ := Option.map_eq_some_iff.1 h
      have hm := mapM_opt _ _ _ hx
      exact .of_tuple ⟨hm.1, fun j v u h1 h2 => ih _ _ (hm.2 j u v h2 h1)⟩
    all_goals first
      | (cases h; constructor)
      | (cases h; done)

/-- Where the package's variables lie. -/
def GRel (P : Program) (φ : Phi) : Prop := ∀ g, g < P.globals.size → ∃ n, φ g = some ⟨g, 0, n⟩
theorem GRel.mono {P : Program} {φ ψ : Phi} (hle : φ.le ψ) (h : GRel P φ) : GRel P ψ := fun g hg => let ⟨n, hn⟩ := h g hg; ⟨n, hle _ _ hn⟩

section
variable {P : Program} {B0 : Nat} {φ : Phi} {H : DH} {w : World} {fr : DFr} {a : Act}

theorem opd_rel (hG : GRel P φ) (hT : TRel φ fr.tmps a.tmps) {x : Operand} {x' : DOpd} (h : cOpd P x = some x') : VRel φ (fr.eval x') (a.eval x) := by
  cases x with
  | tmp t => simp only [cOpd, Option.some.injEq] at h; subst h; exact hT t
  | const v =>
    obtain ⟨y, hy, rfl⟩ := Option.map_eq_some_iff.1 h
    exact cv_rel φ 3 v y hy
  | global g =>
    simp only [cOpd] at h
    split at h
    · obtain rfl := Option.some.inj h
      rename_i hg
      obtain ⟨n, hn⟩ := hG g hg
      have := VRel.ptr g 0 _ hn
      simpa [DFr.eval, Act.eval] using this
    · exact absurd h (by simp)
  | func f =>
    simp only [cOpd, Option.some.injEq] at h; subst h
    exact .of_func (LRel.nil _) (LRel.nil _)

theorem opds_rel (hG : GRel P φ) (hT : TRel φ fr.tmps a.tmps) {xs : Array Operand} {l : List DOpd} (h : cOpds P xs = some l) :
    LRel φ (l.map fr.eval) (xs.map a.eval).toList := by
  have hm := mapM_opt _ _ _ h
  refine ⟨by simp [hm.1], fun j v u h1 h2 => ?_⟩
  rw [List.getElem?_map] at h1
  obtain ⟨y, hy, rfl⟩ := Option.map_eq_some_iff.1 h1
  rw [Array.toList_map, List.getElem?_map] at h2
  obtain ⟨x, hx, rfl⟩ := Option.map_eq_some_iff.1 h2
  exact opd_rel hG hT (hm.2 j x y hx hy)

/-- A quiet operation: a value, and nothing turned. -/
def Quiet (P : Program) (φ : Phi) (w : World) (v : DV) (r : Result Next) : Prop := ∃ u, r = .ok (.value u) w ∧ VRel φ v u

/-- Numbers. -/
theorem run_dintbin {op : BinOp} {k : IntKind} {x y : Int} {v : DV} (h : dintbin op k x y = some v) (hs : op ≠ .shl) (hr : op ≠ .shr) (w : World) (t : TypeId) :
    ∃ u, (binOp op t (.int k x) (.int k y)).run P w = .ok u w ∧ VRel φ v u := by
  cases op
  case add => cases h; exact ⟨.int k (k.wrap (x + y)), by simp [binOp, Op.intArith], by rw [dwrap_eq]; constructor⟩
  case sub => cases h; exact ⟨.int k (k.wrap (x - y)), by simp [binOp, Op.intArith], by rw [dwrap_eq]; constructor⟩
  case mul => cases h; exact ⟨.int k (k.wrap (x * y)), by simp [binOp, Op.intArith], by rw [dwrap_eq]; constructor⟩
  case quo =>
    simp only [dintbin] at h
    split at h
    · cases h
    · rename_i hy; cases h; exact ⟨.int k (k.wrap (x.tdiv y)), by simp [binOp, Op.intDiv, hy], by rw [dwrap_eq]; constructor⟩
  case rem =>
    simp only [dintbin] at h
    split at h
    · cases h
    · rename_i hy; cases h; exact ⟨.int k (x.tmod y), by simp [binOp, Op.intDiv, hy], by constructor⟩
  case and => cases h; exact ⟨.int k _, by simp only [binOp, Op.intBits, ne_eq, not_true, if_false]; rfl, by constructor⟩
  case or => cases h; exact ⟨.int k _, by simp only [binOp, Op.intBits, ne_eq, not_true, if_false]; rfl, by constructor⟩
  case xor => cases h; exact ⟨.int k _, by simp only [binOp, Op.intBits, ne_eq, not_true, if_false]; rfl, by constructor⟩
  case andNot => cases h; exact ⟨.int k _, by simp only [binOp, Op.intBits, ne_eq, not_true, if_false]; rfl, by constructor⟩
  case shl => exact absurd rfl hs
  case shr => exact absurd rfl hr
  case eql => cases h; exact ⟨.bool (x == y), by simp [binOp, Op.intCmp], by rw [ieq_eq]; constructor⟩
  case neq => cases h; exact ⟨.bool (x != y), by simp [binOp, Op.intCmp], by rw [ieq_eq]; constructor⟩
  case lss => cases h; exact ⟨.bool (decide (x < y)), by simp [binOp, Op.intCmp], by rw [ilt_eq]; constructor⟩
  case leq => cases h; exact ⟨.bool (decide (x ≤ y)), by simp [binOp, Op.intCmp], by rw [ilt_eq, show (!decide (y < x)) = decide (x ≤ y) from by rw [← decide_not]; congr 1; exact propext Int.not_lt]; constructor⟩
  case gtr => cases h; exact ⟨.bool (decide (x > y)), by simp [binOp, Op.intCmp], by rw [ilt_eq]; constructor⟩
  case geq => cases h; exact ⟨.bool (decide (x ≥ y)), by simp [binOp, Op.intCmp], by rw [ilt_eq, show (!decide (x < y)) = decide (x ≥ y) from by rw [← decide_not]; congr 1; exact propext Int.not_lt]; constructor⟩

theorem bytesToList (s : ByteArray) : s.toList = s.data.toList := Lib.toList_data s

/-- Texts. -/
theorem run_dstrbin {op : BinOp} {x y : ByteArray} {v : DV} (h : dstrbin op x.data.toList y.data.toList = some v) (w : World) (t : TypeId) :
    ∃ u, (binOp op t (.string x) (.string y)).run P w = .ok u w ∧ VRel φ v u := by
  have hx := bytesToList x
  have hy := bytesToList y
  cases op <;> simp only [dstrbin] at h
  case add =>
    split at h
    · rename_i hle
      cases h
      refine ⟨.string (x ++ y), ?_, ?_⟩
      · have hn : ¬ ((9223372036854775807 : Int) < (x.size : Int) + (y.size : Int)) := by
          simp at hle
          have e1 : x.size = x.data.size := rfl
          have e2 : y.size = y.data.size := rfl
          omega
        simp [binOp, Op.stringOp, IntKind.max, IntKind.bits, IntKind.signed, hn]
      · have := VRel.str (φ := φ) (x ++ y)
        rwa [show (x ++ y).data.toList = x.data.toList ++ y.data.toList from by simp [ByteArray.data_append]] at this
    · cases h
  case eql => cases h; exact ⟨.bool (x.toList == y.toList), by simp [binOp, Op.stringOp], by rw [hx, hy]; constructor⟩
  case neq => cases h; exact ⟨.bool (!(x.toList == y.toList)), by simp [binOp, Op.stringOp], by rw [hx, hy]; constructor⟩
  case lss => cases h; exact ⟨.bool (Op.bytesLess x.toList y.toList), by simp [binOp, Op.stringOp], by rw [hx, hy]; constructor⟩
  case leq => cases h; exact ⟨.bool (Op.bytesLess x.toList y.toList || x.toList == y.toList), by simp [binOp, Op.stringOp], by rw [hx, hy]; constructor⟩
  case gtr => cases h; exact ⟨.bool (!(Op.bytesLess x.toList y.toList || x.toList == y.toList)), by simp [binOp, Op.stringOp], by rw [hx, hy]; constructor⟩
  case geq => cases h; exact ⟨.bool (!Op.bytesLess x.toList y.toList), by simp [binOp, Op.stringOp], by rw [hx, hy]; constructor⟩
  all_goals cases h
end
end Go.Proofs.YtfmmgggdgpfaaaaGreatDoor.DS
