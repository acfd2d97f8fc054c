/- Quiet operations that wait. -/
import Derived.Test.YtfmmgggdgpfaaaaGreatDoorDstep
import Derived.Test.YtfmmgggdgpfaaaaGreatDoorDquiet
import Derived.Orders
namespace Go.Proofs.YtfmmgggdgpfaaaaGreatDoor.DS
open Go.RowKit (Below)
set_option linter.unusedVariables false
set_option linter.unusedSimpArgs false

noncomputable def ev (tm : Tr DV) : DOpd → DV
  | .tmp t => (tm.get t).getD .bad
  | .const v => v
  | .global g => .ptr g 0
  | .func f => .func f [] []
theorem eval_ev (fr : DFr) : fr.eval = ev fr.tmps := by funext x; cases x <;> rfl

noncomputable def wantT (tm : Tr DV) : Option (Nat × Bool) → Option Bool
  | none => some true
  | some (t, b) =>
    match tm.get t with
    | some (.bool c) => some (c == b)
    | some .bad => none
    | some _ => some false
    | none => none
theorem dwant_wantT (fr : DFr) (g : Option (Nat × Bool)) : dwant fr g = wantT fr.tmps g := by
  cases g with
  | none => rfl
  | some p => rfl

noncomputable def putT (tm : Tr DV) (dst : Option Nat) (v : DV) : Tr DV :=
  match dst with
  | some d => tm.put d v
  | none => tm
theorem get_putT (tm : Tr DV) (dst : Option Nat) (v : DV) (s : Nat) : (putT tm dst v).get s = if dst = some s then some v else tm.get s := by
  cases dst with
  | none => simp [putT]
  | some d =>
    simp only [putT, Tr.get_put, Option.some.injEq]
    by_cases h : s = d
    · subst h; simp
    · rw [if_neg h, if_neg (fun e => h e.symm)]
theorem put_tmps (fr : DFr) (dst : Option Nat) (v : DV) : (fr.put dst v).tmps = putT fr.tmps dst v := by cases dst <;> rfl
theorem put_with (fr : DFr) (dst : Option Nat) (v : DV) (t : Tr DV) : ({ fr with tmps := t } : DFr).put dst v = { fr with tmps := putT t dst v } := by cases dst <;> rfl
theorem put_eq (fr : DFr) (dst : Option Nat) (v : DV) : fr.put dst v = { fr with tmps := putT fr.tmps dst v } := by cases dst <;> rfl

def Agree (S : List Nat) (t t' : Tr DV) : Prop := ∀ s ∈ S, t.get s = t'.get s

theorem ev_agree {o : DOper} {t t' : Tr DV} (h : Agree o.reads t t') : ∀ x ∈ o.op.opds, ev t x = ev t' x := by
  intro x hx
  cases x with
  | tmp s =>
    have : s ∈ o.reads := List.mem_append_left _ (List.mem_filterMap.2 ⟨.tmp s, hx, rfl⟩)
    simp only [ev, h s this]
  | _ => rfl
theorem want_agree {o : DOper} {t t' : Tr DV} (h : Agree o.reads t t') : wantT t o.guard = wantT t' o.guard := by
  cases hg : o.guard with
  | none => rfl
  | some p =>
    have : p.1 ∈ o.reads := List.mem_append_right _ (by simp [hg])
    simp only [wantT, h p.1 this]

/-- The same step from other slots. -/
def StepTo (P : Program) (rec : Rec) (o : DOper) (fr : DFr) (H : DH) (t' : Tr DV) : DR → Prop
  | .go fr1 H1 => ∃ v, ∃ fr0 : DFr, fr0.tmps = fr.tmps ∧ fr1 = fr0.put o.dst v ∧ dstep P rec o { fr with tmps := t' } H = some (.go (({ fr0 with tmps := t' } : DFr).put o.dst v) H1)
  | .pan v fr1 H1 => fr1.tmps = fr.tmps ∧ dstep P rec o { fr with tmps := t' } H = some (.pan v { fr1 with tmps := t' } H1)

theorem dstep_congr {P : Program} {rec : Rec} {o : DOper} {fr : DFr} {H : DH} {r : DR} (h : dstep P rec o fr H = some r) {t' : Tr DV} (ha : Agree o.reads fr.tmps t') : StepTo P rec o fr H t' r := by
  have hw : dwant { fr with tmps := t' } o.guard = dwant fr o.guard := by rw [dwant_wantT, dwant_wantT]; exact (want_agree ha).symm
  have hd : dop P ({ fr with tmps := t' } : DFr).eval H o.op = dop P fr.eval H o.op := by
    rw [eval_ev, eval_ev]; exact (dop_congr (ev_agree ha)).symm
  unfold StepTo
  unfold dstep at h ⊢
  rw [hw, hd]
  rcases hw0 : dwant fr o.guard with _ | bb
  · rw [hw0] at h; cases h
  rw [hw0] at h
  cases bb with
  | false =>
    simp only [Option.some.injEq] at h
    subst h
    exact ⟨dundef, fr, rfl, rfl, rfl⟩
  | true =>
    rcases hd0 : dop P fr.eval H o.op with _ | ⟨x, H2⟩
    · rw [hd0] at h; cases h
    · rw [hd0] at h
      simp only at h ⊢
      cases x with
      | val v =>
        simp only [dapply, Option.some.injEq] at h
        subst h
        exact ⟨v, fr, rfl, rfl, by simp [dapply]⟩
      | call f args =>
        simp only [dapply] at h
        split at h
        · rename_i v recd H3 hr; cases h; exact ⟨v, fr, rfl, rfl, by simp [dapply, hr]⟩
        · rename_i v recd H3 hr; cases h; exact ⟨rfl, by simp [dapply, hr]⟩
        · cases h
      | round f args =>
        simp only [dapply] at h
        split at h
        · rename_i v recd H3 hr; cases h; exact ⟨v, fr, rfl, rfl, by simp [dapply, hr]⟩
        · rename_i v recd H3 hr; cases h; exact ⟨rfl, by simp [dapply, hr]⟩
        · cases h
      | recover =>
        simp only [dapply] at h
        split at h
        · cases h
        · rename_i hround
          split at h
          · rename_i v hrcv; cases h; exact ⟨v, { fr with rcv := none, recd := true }, rfl, rfl, by simp [dapply, hround, hrcv]⟩
          · rename_i hrcv; cases h; exact ⟨.nilIface, fr, rfl, rfl, by simp [dapply, hround, hrcv]⟩
      | defer y =>
        simp only [dapply] at h
        split at h
        · cases h
        · rename_i hround
          cases h
          exact ⟨dundef, { fr with defers := y :: fr.defers }, rfl, rfl, by simp [dapply, hround]⟩
      | panic v =>
        simp only [dapply, Option.some.injEq] at h
        subst h
        exact ⟨rfl, by simp [dapply]⟩

/-- The new block of an operation that makes one. -/
noncomputable def dna (ρ : DOpd → DV) : DOp → DNew
  | .alloc e z => da_alloc e z
  | .box e x => da_box ρ e x
  | .buildSlice e s l z ps => da_buildSlice ρ e s l z ps
  | .bytesOf e x => da_bytesOf ρ e x
  | .mkMap => da_mkMap
  | .mkSlice e s b z x y => da_mkSlice ρ e s b z x y
  | _ => none
theorem dop_makes {P : Program} {op : DOp} (h : op.makes = true) (ρ : DOpd → DV) (H : DH) : dop P ρ H op = dnew H (dna ρ op) := by
  cases op <;> simp only [DOp.makes, reduceCtorEq, Bool.false_eq_true] at h <;> rfl
theorem dna_congr {ρ ρ' : DOpd → DV} {op : DOp} (h : ∀ x ∈ op.opds, ρ x = ρ' x) : dna ρ op = dna ρ' op := by
  cases op <;> simp only [dna]
  case box e x => simp only [DOp.opds, List.mem_singleton, forall_eq] at h; simp only [da_box, h]
  case buildSlice e s l z ps => simp only [DOp.opds] at h; simp only [da_buildSlice, mapP h]
  case bytesOf e x => simp only [DOp.opds, List.mem_singleton, forall_eq] at h; simp only [da_bytesOf, h]
  case mkSlice e s b z x y =>
    simp only [DOp.opds, List.mem_cons, List.not_mem_nil, or_false] at h
    simp only [da_mkSlice, h x (.inl rfl), h y (.inr rfl)]

theorem DH.new_ne (H : DH) (B : DBlk) : H.new B ≠ H := fun e => by
  have := congrArg DH.next e
  simp [DH.new] at this

section
variable {P : Program} {B0 : Nat} {φ : Phi} {K : DH} {w : World} {tm : Tr DV} {a : Act} {o : Oper} {op : DOp} {v : DV}

theorem quiet_use (hc : cOp P o = some op) (hR : Rel P B0 φ K w) (hG : GRel P φ) (hT : TRel φ tm a.tmps) (ha : op.acts = false) (hm : op.makes = false) (hd : dop P (ev tm) K op = some (.val v, K)) : ∃ u, (execOp a.eval o).run P w = .ok (.value u) w ∧ VRel φ v u := by
  let fr : DFr := { tmps := tm, defers := [], rcv := none, recd := false, round := false }
  have hd' : dop P fr.eval K op = some (.val v, K) := by rw [eval_ev]; exact hd
  rcases op_class hc with h | ⟨da, h1, _⟩ | h
  · obtain ⟨v', h1, _, h2⟩ := h B0 φ K K w fr a _ hR hG hT hd'
    cases h1
    exact h2
  · rw [h1] at hd
    unfold dnew at hd
    split at hd
    · simp only [Option.some.injEq, Prod.mk.injEq] at hd; exact absurd hd.2 (DH.new_ne _ _)
    · cases hd
  · rw [h.1] at ha; cases ha

theorem new_use (hc : cOp P o = some op) (hR : Rel P B0 φ K w) (hG : GRel P φ) (hT : TRel φ tm a.tmps) (ha : op.acts = false) (hm : op.makes = true) {B : DBlk} {mk : Nat → DV} (hd : dna (ev tm) op = some (B, mk)) : NewOK P φ w ((execOp a.eval o).run P w) B mk := by
  let fr : DFr := { tmps := tm, defers := [], rcv := none, recd := false, round := false }
  have he : fr.eval = ev tm := eval_ev fr
  rcases op_class hc with h | ⟨da, h1, h2⟩ | h
  · have hd' : dop P fr.eval K op = some (.val (mk K.next), K.new B) := by rw [dop_makes hm, he, hd]; rfl
    obtain ⟨v', _, h3, _⟩ := h B0 φ K _ w fr a _ hR hG hT hd'
    exact absurd h3 (DH.new_ne _ _)
  · have hall : ∀ H : DH, dnew H (da (ev tm)) = some (.val (mk H.next), H.new B) := fun H => by rw [← h1, dop_makes hm, hd]; rfl
    cases hda : da (ev tm) with
    | none => have := hall K; rw [hda] at this; cases this
    | some q =>
      obtain ⟨B', mk'⟩ := q
      have hB : B' = B := by
        have := hall K
        rw [hda] at this
        simp only [dnew, Option.some.injEq, Prod.mk.injEq] at this
        have h3 := congrArg (fun H : DH => H.get K.next) this.2
        simp only [DH.get_new, if_true, Option.some.injEq] at h3
        exact h3
      have hmk : mk' = mk := by
        funext n
        have := hall { next := n, mem := .nil }
        rw [hda] at this
        simp only [dnew, Option.some.injEq, Prod.mk.injEq, DNx.val.injEq] at this
        exact this.1
      subst hB; subst hmk
      exact h2 φ w fr a B' mk' hG hT (by rw [he]; exact hda)
  · rw [h.1] at ha; cases ha
end

/-- A quiet operation that the twin has run and the machine has not. -/
structure PIt where
  o : Oper
  d : DItem
  v : DV
  blk : Option (Nat × DBlk × (Nat → DV))

/-- What it gives, wherever it comes. -/
def ItemVal (P : Program) (φ : Phi) (K : DH) (log : List DLog) (n0 : Nat) (p : PIt) (tm : Tr DV) : Prop :=
  (wantT tm p.d.o.guard = some false ∧ p.v = dundef ∧ p.blk = none) ∨
  (wantT tm p.d.o.guard = some true ∧ p.d.o.op.acts = false ∧ p.d.o.op.makes = false ∧ p.blk = none ∧ dop P (ev tm) K p.d.o.op = some (.val p.v, K) ∧
    (p.d.o.op.looks = true → ∃ l ∈ log, l.idx = p.d.idx ∧ l.o = p.d.o.op ∧ l.v = p.v ∧ ∀ x ∈ p.d.o.op.opds, l.fr.eval x = ev tm x)) ∨
  (wantT tm p.d.o.guard = some true ∧ p.d.o.op.acts = false ∧ p.d.o.op.makes = true ∧ ∃ d B mk, p.blk = some (d, B, mk) ∧ dna (ev tm) p.d.o.op = some (B, mk) ∧ p.v = mk d ∧ K.get d = some B ∧
    φ d = none ∧ n0 ≤ d ∧ d < K.next)

theorem ItemVal.agree {P : Program} {φ : Phi} {K : DH} {log : List DLog} {n0 : Nat} {p : PIt} {tm tm' : Tr DV} (ha : Agree p.d.o.reads tm tm') (h : ItemVal P φ K log n0 p tm) : ItemVal P φ K log n0 p tm' := by
  have hw := want_agree ha
  have he := ev_agree ha
  unfold ItemVal at h ⊢
  rw [← hw, ← dop_congr (P := P) (H := K) he, ← dna_congr he]
  rcases h with h | ⟨h1, h2, h3, h4, h5, h6⟩ | h
  · exact .inl h
  · refine .inr (.inl ⟨h1, h2, h3, h4, h5, fun hl => ?_⟩)
    obtain ⟨l, hl, a, b, c, d⟩ := h6 hl
    exact ⟨l, hl, a, b, c, fun x hx => (d x hx).trans (he x hx)⟩
  · exact .inr (.inr h)

def PendOK (P : Program) (φ : Phi) (K : DH) (log : List DLog) (n0 : Nat) : Tr DV → List PIt → Tr DV → Prop
  | tm, [], tj => ∀ s, tm.get s = tj.get s
  | tm, p :: ps, tj => ItemVal P φ K log n0 p tm ∧ PendOK P φ K log n0 (putT tm p.d.o.dst p.v) ps tj

def Indep (p i : DOper) : Prop := (∀ d, p.dst = some d → d ∉ i.names) ∧ (∀ d, i.dst = some d → d ∉ p.names)
theorem indep_iff {p i : DOper} (h : indep p i = true) : Indep p i := by
  unfold indep at h
  simp only [Bool.and_eq_true] at h
  refine ⟨fun d hd => ?_, fun d hd => ?_⟩
  · have := h.1; rw [hd] at this; simpa using this
  · have := h.2; rw [hd] at this; simpa using this

section
variable {P : Program} {φ φ' : Phi} {K K' : DH} {log log' : List DLog} {n0 : Nat}

theorem agree_put {o : DOper} {tm : Tr DV} {dst : Option Nat} {v : DV} (h : ∀ d, dst = some d → d ∉ o.names) : Agree o.reads tm (putT tm dst v) := by
  intro s hs
  rw [get_putT]
  by_cases e : dst = some s
  · exact absurd (List.mem_append_right _ hs) (h s e)
  · rw [if_neg e]

theorem PendOK.congr : ∀ {ps : List PIt} {tm tm' tj tj' : Tr DV}, (∀ s, tm.get s = tm'.get s) → (∀ s, tj.get s = tj'.get s) → PendOK P φ K log n0 tm ps tj → PendOK P φ K log n0 tm' ps tj'
  | [], _, _, _, _, h, hj, hp => fun s => (h s).symm.trans ((hp s).trans (hj s))
  | p :: ps, tm, tm', _, _, h, hj, hp => ⟨hp.1.agree fun s _ => h s, hp.2.congr (fun s => by rw [get_putT, get_putT, h s]) hj⟩

theorem PendOK.imp : ∀ {ps : List PIt} {tm tj : Tr DV}, (∀ p ∈ ps, ∀ t, ItemVal P φ K log n0 p t → ItemVal P φ' K' log' n0 p t) → PendOK P φ K log n0 tm ps tj → PendOK P φ' K' log' n0 tm ps tj
  | [], _, _, _, hp => hp
  | p :: ps, _, _, h, hp => ⟨h p (by simp) _ hp.1, hp.2.imp fun q hq => h q (List.mem_cons_of_mem _ hq)⟩

theorem PendOK.take : ∀ {pre : List PIt} {m : PIt} {post : List PIt} {tm tj : Tr DV}, PendOK P φ K log n0 tm (pre ++ m :: post) tj → (∀ p ∈ pre, Indep p.d.o m.d.o) →
    ItemVal P φ K log n0 m tm ∧ PendOK P φ K log n0 (putT tm m.d.o.dst m.v) (pre ++ post) tj
  | [], _, _, _, _, h, _ => h
  | p :: pre, m, post, tm, tj, h, hi => by
    have h1 := h.1
    obtain ⟨h2, h3⟩ := PendOK.take (pre := pre) h.2 fun q hq => hi q (List.mem_cons_of_mem _ hq)
    have hip := hi p (by simp)
    refine ⟨h2.agree fun s hs => (agree_put (tm := tm) (v := p.v) hip.1 s hs).symm, h1.agree (agree_put hip.2), h3.congr (fun s => ?_) fun _ => rfl⟩
    simp only [get_putT]
    by_cases e : p.d.o.dst = some s
    · by_cases e' : m.d.o.dst = some s
      · exact absurd (by simp [DOper.names, e'] : s ∈ m.d.o.names) (hip.1 s e)
      · simp [e, e']
    · by_cases e' : m.d.o.dst = some s <;> simp [e, e']

theorem PendOK.shift : ∀ {ps : List PIt} {tm tj : Tr DV} {e : DOper} {v : DV}, PendOK P φ K log n0 tm ps tj → (∀ p ∈ ps, Indep p.d.o e) →
    PendOK P φ K log n0 (putT tm e.dst v) ps (putT tj e.dst v)
  | [], tm, tj, e, v, h, _ => fun s => by rw [get_putT, get_putT, h s]
  | p :: ps, tm, tj, e, v, h, hi => by
    have hip := hi p (by simp)
    refine ⟨h.1.agree (agree_put hip.2), (PendOK.shift (e := e) (v := v) h.2 fun q hq => hi q (List.mem_cons_of_mem _ hq)).congr (fun s => ?_) fun _ => rfl⟩
    simp only [get_putT]
    by_cases h1 : p.d.o.dst = some s
    · by_cases h2 : e.dst = some s
      · exact absurd (by simp [DOper.names, h2] : s ∈ e.names) (hip.1 s h1)
      · simp [h1, h2]
    · by_cases h2 : e.dst = some s <;> simp [h1, h2]

theorem PendOK.snoc : ∀ {ps : List PIt} {tm tj : Tr DV} {q : PIt}, PendOK P φ K log n0 tm ps tj → ItemVal P φ K log n0 q tj → PendOK P φ K log n0 tm (ps ++ [q]) (putT tj q.d.o.dst q.v)
  | [], _, _, q, h, hq => ⟨hq.agree fun s _ => (h s).symm, fun s => by rw [get_putT, get_putT, h s]⟩
  | _ :: _, _, _, _, h, hq => ⟨h.1, PendOK.snoc h.2 hq⟩

/-- Slots that nothing waiting writes. -/
theorem PendOK.same : ∀ {ps : List PIt} {tm tj : Tr DV}, PendOK P φ K log n0 tm ps tj → ∀ s, (∀ p ∈ ps, p.d.o.dst ≠ some s) → tm.get s = tj.get s
  | [], _, _, h, s, _ => h s
  | p :: ps, tm, tj, h, s, hs => by
    have := PendOK.same h.2 s fun q hq => hs q (List.mem_cons_of_mem _ hq)
    rw [get_putT, if_neg (hs p (by simp))] at this
    exact this
end
end Go.Proofs.YtfmmgggdgpfaaaaGreatDoor.DS
