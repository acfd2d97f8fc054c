/- Code: what the twin runs is what the machine runs. -/
import Derived.Test.YtfmmgggdgpfaaaaGreatDoorDmach
namespace Go.Proofs.YtfmmgggdgpfaaaaGreatDoor.DS
open Go.RowKit (Below)
set_option linter.unusedVariables false
set_option linter.unusedSimpArgs false

def EndRel (φ : Phi) : DEnd → Ending → Prop
  | .ret v, .returned u => VRel φ v u
  | .panic v, .panicked ch => ∃ u, ch = [{ v := u, recovered := false }] ∧ VRel φ v u
  | _, _ => False

/-- The mode of the frame whose deferred call runs. -/
def ModeRel (φ : Phi) (rcv : Option DV) (recd : Bool) (m : FrameMode) : Prop :=
  (∃ v u, rcv = some v ∧ recd = false ∧ m = .panicking [{ v := u, recovered := false }] ∧ VRel φ v u) ∨
  (∃ u, rcv = none ∧ recd = true ∧ m = .panicking [{ v := u, recovered := true }]) ∨ (rcv = none ∧ recd = false ∧ m = .returning)

theorem ModeRel.mono {φ ψ : Phi} (hle : φ.le ψ) {rcv : Option DV} {recd : Bool} {m : FrameMode} (h : ModeRel φ rcv recd m) : ModeRel ψ rcv recd m := by
  rcases h with ⟨v, u, h1, h2, h3, h4⟩ | h | h
  · exact .inl ⟨v, u, h1, h2, h3, h4.mono hle⟩
  · exact .inr (.inl h)
  · exact .inr (.inr h)

def CtxRel (φ : Phi) (kind : CallKind) (rcv : Option DV) (recd : Bool) (cs : List Frame) : Prop :=
  (kind = .normal ∧ rcv = none ∧ recd = false) ∨ (kind = .deferred ∧ ∃ c rest, cs = c :: rest ∧ ModeRel φ rcv recd c.mode)

theorem CtxRel.mono {φ ψ : Phi} (hle : φ.le ψ) {kind : CallKind} {rcv : Option DV} {recd : Bool} {cs : List Frame} (h : CtxRel φ kind rcv recd cs) : CtxRel ψ kind rcv recd cs := by
  rcases h with h | ⟨h1, c, rest, h2, h3⟩
  · exact .inl h
  · exact .inr ⟨h1, c, rest, h2, h3.mono hle⟩

/-- The callers, but for the mode of the first. -/
def CsTo (kind : CallKind) (cs cs' : List Frame) : Prop := (kind = .normal ∧ cs' = cs) ∨ (kind = .deferred ∧ ∃ c rest m, cs = c :: rest ∧ cs' = { c with mode := m } :: rest ∧ (m = c.mode ∨ ∃ u, m = .panicking [{ v := u, recovered := true }]))

theorem CsTo.refl {φ : Phi} {kind : CallKind} {rcv : Option DV} {recd : Bool} {cs : List Frame} (h : CtxRel φ kind rcv recd cs) : CsTo kind cs cs := by
  rcases h with h | ⟨h1, c, rest, rfl, _⟩
  · exact .inl ⟨h.1, rfl⟩
  · exact .inr ⟨h1, c, rest, c.mode, rfl, rfl, .inl rfl⟩

theorem CsTo.trans {kind : CallKind} {a b c : List Frame} (h : CsTo kind a b) (k : CsTo kind b c) : CsTo kind a c := by
  rcases h with ⟨h1, rfl⟩ | ⟨h1, f, rest, m, rfl, rfl, hm⟩
  · exact k
  · rcases k with ⟨k1, rfl⟩ | ⟨k1, g, rest', m', hg, rfl, hm'⟩
    · rw [h1] at k1; cases k1
    · cases hg
      refine .inr ⟨h1, f, rest, m', rfl, rfl, ?_⟩
      rcases hm' with rfl | hm'
      · exact hm
      · exact .inr hm'

def DefOK (φ : Phi) : DDef → Deferred → Prop
  | .call f args, d => ∃ first cap : Array Value, d = { target := .fn (.func f) cap, args := first } ∧ LRel φ args (first ++ cap).toList
  | .collected n, d => ∃ i, φ n = some i ∧ d = { target := .collected i.b, args := #[] }

def DefsRel (φ : Phi) : List DDef → List Deferred → Prop
  | [], [] => True
  | x :: xs, d :: ds => DefOK φ x d ∧ DefsRel φ xs ds
  | _, _ => False

theorem DefOK.mono {φ ψ : Phi} (hle : φ.le ψ) {x : DDef} {d : Deferred} (h : DefOK φ x d) : DefOK ψ x d := by
  cases x with
  | call f args => obtain ⟨a, b, h1, h2⟩ := h; exact ⟨a, b, h1, h2.mono hle⟩
  | collected n => obtain ⟨i, h1, h2⟩ := h; exact ⟨i, hle _ _ h1, h2⟩

theorem DefsRel.mono {φ ψ : Phi} (hle : φ.le ψ) : ∀ {xs : List DDef} {ds : List Deferred}, DefsRel φ xs ds → DefsRel ψ xs ds
  | [], [], _ => trivial
  | _ :: _, _ :: _, h => ⟨h.1.mono hle, h.2.mono hle⟩

/-- A frame and its twin. -/
structure FRel (φ : Phi) (nt : Nat) (fr : DFr) (b : Frame) (a : Act) (cs : List Frame) : Prop where
  tmps : TRel φ fr.tmps a.tmps
  size : a.tmps.size = nt
  defs : DefsRel φ fr.defers a.defers
  rnd : fr.round = b.roundOf.isSome
  ctx : CtxRel φ b.kind fr.rcv fr.recd cs

theorem FRel.mono {φ ψ : Phi} (hle : φ.le ψ) {nt : Nat} {fr : DFr} {b : Frame} {a : Act} {cs : List Frame} (h : FRel φ nt fr b a cs) : FRel ψ nt fr b a cs :=
  ⟨h.tmps.mono hle, h.size, h.defs.mono hle, h.rnd, h.ctx.mono hle⟩

theorem FRel.put {φ : Phi} {nt : Nat} {fr : DFr} {b : Frame} {a : Act} {cs : List Frame} (h : FRel φ nt fr b a cs) {v : DV} {u : Value} (hv : VRel φ v u) {dst : Option Nat} (hd : ∀ d, dst = some d → d < nt) :
    FRel φ nt (fr.put dst v) b (a.put dst u) cs := by
  cases dst with
  | none => exact h
  | some d => exact ⟨h.tmps.put hv (by rw [h.size]; exact hd d rfl), by simp [Act.put, h.size], h.defs, h.rnd, h.ctx⟩

/-- Back at the caller. -/
def Back (P : Program) (φ : Phi) (e : DEnd) (start : List Frame → Machine) (w' : World) : Prop :=
  match e with
  | .ret v => ∃ u, VRel φ v u ∧ ∀ (c : Frame) (cs : List Frame), Steps P (start (c :: cs)) (lone (c.finish u) cs w')
  | .panic v => ∃ u, VRel φ v u ∧ ∀ (c : Frame) (cs : List Frame), Steps P (start (c :: cs)) (lone (c.raise [{ v := u, recovered := false }]) cs w')

/-- What a run of the twin's says of the machine. -/
def TgtOK (P : Program) (t : Tgt) (H : DH) (e : DEnd) (recd : Bool) (H' : DH) : Prop :=
  match t with
  | .fn false _ f args => ∀ (B0 : Nat) (φ : Phi) (args' : Array Value) (w : World), Rel P B0 φ H w → GRel P φ → LRel φ args args'.toList → ∀ cs : List Frame,
      ∃ φ' w' fr e', Ext B0 φ H w φ' H' w' ∧ Rel P B0 φ' H' w' ∧ EndRel φ' e e' ∧ Steps P (lone (Frame.enter P f args' .normal) cs w) (lone fr cs w') ∧ fr.fn = f ∧ fr.leaving P w' e'
  | .fn true avail f args => ∀ (B0 : Nat) (φ : Phi) (args' : Array Value) (w : World), Rel P B0 φ H w → GRel P φ → LRel φ args args'.toList → ∀ (c : Frame) (cs : List Frame), ModeRel φ avail false c.mode →
      ∃ φ' w' fr e' m, Ext B0 φ H w φ' H' w' ∧ Rel P B0 φ' H' w' ∧ EndRel φ' e e' ∧ Steps P (lone (Frame.enter P f args' .deferred) (c :: cs) w) (lone fr ({ c with mode := m } :: cs) w') ∧ fr.kind = .deferred ∧ fr.going P w' e' ∧
        (∃ rcv, ModeRel φ' rcv recd m ∧ (recd = false → m = c.mode))
  | .round d args => ∀ (B0 : Nat) (φ : Phi) (args' : Array Value) (w : World) (i : PI), Rel P B0 φ H w → GRel P φ → LRel φ args args'.toList → φ d = some i →
      ∃ l f tmps as bd, (Instr.yield i.b args').run P w = .ok (.round l f tmps as bd) w ∧ ∀ (c : Frame) (cs : List Frame),
      ∃ φ' w', Ext B0 φ H w φ' H' w' ∧ Rel P B0 φ' H' w' ∧
        (match e with
          | .ret v => ∃ u, VRel φ' v u ∧ Steps P (lone (Frame.round l f tmps as bd .normal) (c :: cs) w) (lone (c.finish u) cs w')
          | .panic v => ∃ u, VRel φ' v u ∧ Steps P (lone (Frame.round l f tmps as bd .normal) (c :: cs) w) (lone (c.raise [{ v := u, recovered := false }]) cs w'))

def RecOK (P : Program) (rec : Rec) : Prop := ∀ (t : Tgt) (H : DH) (e : DEnd) (recd : Bool) (H' : DH), rec t H = some (e, recd, H') →
  TgtOK P t H e recd H' ∧ (match t with | .fn _ _ f _ => (dprog P f).isSome = true | .round .. => True)

end Go.Proofs.YtfmmgggdgpfaaaaGreatDoor.DS
