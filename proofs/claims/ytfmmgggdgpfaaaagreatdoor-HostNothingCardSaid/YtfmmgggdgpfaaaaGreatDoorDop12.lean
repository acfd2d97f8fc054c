/- Every operation: what is quiet, what makes a block, what acts. -/
import Derived.Test.YtfmmgggdgpfaaaaGreatDoorDop11
namespace Go.Proofs.YtfmmgggdgpfaaaaGreatDoor.DS
open Go.RowKit (Below)
set_option linter.unusedVariables false
set_option linter.unusedSimpArgs false

def QOK (P : Program) (o : Oper) (op : DOp) : Prop :=
  ∀ (B0 : Nat) (φ : Phi) (H H' : DH) (w : World) (fr : DFr) (a : Act) (x : DNx), Rel P B0 φ H w → GRel P φ → TRel φ fr.tmps a.tmps → dop P fr.eval H op = some (x, H') →
    QRes P φ w H x H' ((execOp a.eval o).run P w)

def NOK (P : Program) (o : Oper) (op : DOp) : Prop :=
  ∃ da : (DOpd → DV) → DNew, (∀ ρ H, dop P ρ H op = dnew H (da ρ)) ∧
    ∀ (φ : Phi) (w : World) (fr : DFr) (a : Act) (B : DBlk) (mk : Nat → DV), GRel P φ → TRel φ fr.tmps a.tmps → da fr.eval = some (B, mk) → NewOK P φ w ((execOp a.eval o).run P w) B mk

def EOK (P : Program) (o : Oper) (op : DOp) : Prop :=
  op.acts = true ∧ ∀ (B0 : Nat) (φ : Phi) (H H' : DH) (w : World) (fr : DFr) (a : Act) (x : DNx), Rel P B0 φ H w → GRel P φ → TRel φ fr.tmps a.tmps → dop P fr.eval H op = some (x, H') →
    ORes P B0 φ w H x H' ((execOp a.eval o).run P w)

section
variable {P : Program} {o : Oper} {op : DOp}

theorem VRes.toO {B0 : Nat} {φ : Phi} {w : World} {H H' : DH} {x : DNx} {r : Result Next} (h : ∃ v, x = .val v ∧ VRes P B0 φ w H v H' r) : ORes P B0 φ w H x H' r := by
  obtain ⟨v, rfl, h⟩ := h; exact h

theorem e_ext {B0 : Nat} {φ : Phi} {H H' : DH} {w : World} {fr : DFr} {a : Act} {x : DNx} (hR : Rel P B0 φ H w) (hG : GRel P φ) (hT : TRel φ fr.tmps a.tmps)
    (f : Operand) (args : Array Operand) (ts : Array TypeId) {e : DExt} {l : List DOpd} (ho : o.op = .call { callee := .value f, args, argTypes := ts }) (he : cExt P f = some e) (hl : cOpds P args = some l)
    (hd : dop P fr.eval H (.ext e l) = some (x, H')) : ORes P B0 φ w H x H' ((execOp a.eval o).run P w) := by
  have hq := opds_rel hG hT hl
  simp only [dop, dop_ext, Option.map_eq_some_iff, Prod.mk.injEq] at hd
  obtain ⟨v, hv, rfl, rfl⟩ := hd
  cases f with
  | func g =>
    simp only [cExt] at he
    split at he
    · rename_i fn hfn
      split at he
      · cases he
      · rename_i hb
        have hb' : fn.body.isNone = true := by cases h : fn.body <;> simp_all
        have hexec : (execOp a.eval o).run P w = (callFunc g (args.map a.eval)).run P w := by
          simp [execOp, ho, resolve, Act.eval, Deferred.ofValue, invoke]
        rw [hexec]
        split at he
        · rename_i hn
          cases he
          simp only [Bool.and_eq_true, beq_iff_eq] at hn
          have hnm : (fn.name == "runtime.NumGoroutine") = false := by rw [hn.1]; rfl
          rw [run_callFunc_extern hfn hnm hb' (findNext_noEscape fn hn.1 hn.2) (find_noEscape fn hn.1)]
          generalize hus : (args.map a.eval) = us at *
          have hus2 := hq
          cases hm : l.map fr.eval with
          | nil => rw [hm] at hv; simp [dext] at hv
          | cons v1 rest =>
            rw [hm] at hv hq
            cases rest with
            | cons _ _ => cases v1 <;> simp [dext] at hv
            | nil =>
              cases v1 <;> simp only [dext, reduceCtorEq, Option.some.injEq] at hv
              subst hv
              obtain ⟨u, us', hu, hv', hr'⟩ := hq.cons_left
              obtain rfl := hr'.nil_left
              have : us = #[u] := Array.toList_inj.1 (by simpa using hu)
              subst this
              exact ⟨φ, w, u, .value u, rfl, .inl rfl, .refl _ _ _ _, hR, hv'⟩
        · split at he
          · rename_i hn
            cases he
            simp only [Bool.and_eq_true, beq_iff_eq] at hn
            have hnm : (fn.name == "runtime.NumGoroutine") = false := by rw [hn.1]; rfl
            rw [run_callFunc_extern hfn hnm hb' (findNext_indexByte fn hn.1 hn.2) (find_indexByte fn hn.1)]
            generalize hus : (args.map a.eval) = us at *
            cases hm : l.map fr.eval with
            | nil => rw [hm] at hv; simp [dext] at hv
            | cons v1 rest =>
              rw [hm] at hv hq
              cases rest with
              | nil => cases v1 <;> simp [dext] at hv
              | cons v2 rest2 =>
                obtain ⟨u1, us', hu, h1, hr1⟩ := hq.cons_left
                obtain ⟨u2, us'', rfl, h2, hr2⟩ := hr1.cons_left
                cases rest2 with
                | cons _ _ => cases v1 <;> (try (simp [dext] at hv)) <;> cases v2 <;> simp [dext] at hv
                | nil =>
                  obtain rfl := hr2.nil_left
                  have : us = #[u1, u2] := Array.toList_inj.1 (by simpa using hu)
                  subst this
                  cases h1 <;> (try (simp only [dext, reduceCtorEq] at hv))
                  cases h2 <;> (try (simp only [dext, reduceCtorEq] at hv))
                  rename_i s k n
                  cases k <;> (try (simp only [dext, reduceCtorEq] at hv))
                  simp only [Option.some.injEq] at hv
                  subst hv
                  exact ⟨φ, w, _, .value _, by rw [Lib.run_indexByteString]; rfl, .inl rfl, .refl _ _ _ _, hR, .int _ _⟩
          · cases he
    · cases he
  | tmp _ => simp [cExt] at he
  | const _ => simp [cExt] at he
  | global _ => simp [cExt] at he

theorem op_class (hc : cOp P o = some op) : QOK P o op ∨ NOK P o op ∨ EOK P o op := by
  have hc0 := hc
  cases hop : o.op with
  | move y => exact .inl fun B0 φ H H' w fr a x hR hG hT hd => q_move hR hG hT y (.inl hop) hc hd
  | assign y => exact .inl fun B0 φ H H' w fr a x hR hG hT hd => q_move hR hG hT y (.inr hop) hc hd
  | pick c y z => exact .inl fun B0 φ H H' w fr a x hR hG hT hd => q_pick hR hG hT c y z hop hc hd
  | alloc e =>
    simp only [cOp, hop, Option.pure_def, Option.bind_eq_bind, Option.bind_eq_some_iff, Option.some.injEq] at hc
    obtain ⟨zero, hz, rfl⟩ := hc
    exact .inr (.inl ⟨fun _ => da_alloc e zero, fun ρ H => rfl, fun φ w fr a B mk hG hT hd => n_alloc hG hT e hop hz hd⟩)
  | box e y =>
    simp only [cOp, hop, Option.pure_def, Option.bind_eq_bind, Option.bind_eq_some_iff, Option.some.injEq] at hc
    obtain ⟨y', hy, rfl⟩ := hc
    exact .inr (.inl ⟨fun ρ => da_box ρ e y', fun ρ H => rfl, fun φ w fr a B mk hG hT hd => n_box hG hT e y hop hy hd⟩)
  | build t parts => exact .inl fun B0 φ H H' w fr a x hR hG hT hd => q_build hR hG hT t parts hop hc hd
  | buildSlice t len parts =>
    simp only [cOp, hop] at hc
    split at hc
    · rename_i e hu
      simp only [Option.pure_def, Option.bind_eq_bind, Option.bind_eq_some_iff] at hc
      obtain ⟨s, hs, zero, hz, hc⟩ := hc
      split at hc
      · rename_i hcond
        simp only [Option.bind_eq_some_iff, Option.some.injEq] at hc
        obtain ⟨l, hl, rfl⟩ := hc
        exact .inr (.inl ⟨fun ρ => da_buildSlice ρ e s len zero l, fun ρ H => rfl, fun φ w fr a B mk hG hT hd => n_buildSlice hG hT t e s len parts hop hu hs hz hcond.1 hcond.2.1 hcond.2.2 hl hd⟩)
      · cases hc
    · cases hc
  | load t y => exact .inl fun B0 φ H H' w fr a x hR hG hT hd => q_load hR hG hT t y hop hc hd
  | store t y z =>
    simp only [cOp, hop, Option.pure_def, Option.bind_eq_bind, Option.bind_eq_some_iff, Option.some.injEq] at hc
    obtain ⟨n, hn, y', hy, z', hz, rfl⟩ := hc
    refine .inr (.inr ⟨rfl, fun B0 φ H H' w fr a x hR hG hT hd => ?_⟩)
    simp only [dop, dop_store, Option.map_eq_some_iff, Prod.mk.injEq] at hd
    obtain ⟨H2, h2, rfl, rfl⟩ := hd
    exact e_store hR hG hT t y z n hop hn hy hz h2
  | nilCheck y => exact .inl fun B0 φ H H' w fr a x hR hG hT hd => q_nilCheck hR hG hT y hop hc hd
  | binOp bo t y z t' =>
    simp only [cOp, hop] at hc
    split at hc
    · simp only [Option.pure_def, Option.bind_eq_bind, Option.bind_eq_some_iff, Option.some.injEq] at hc
      obtain ⟨y', hy, z', hz, rfl⟩ := hc
      exact .inl fun B0 φ H H' w fr a x hR hG hT hd => q_bin hR hG hT _ t t' y z hop hy hz hd
    · simp only [Option.pure_def, Option.bind_eq_bind, Option.bind_eq_some_iff, Option.some.injEq] at hc
      obtain ⟨y', hy, z', hz, rfl⟩ := hc
      exact .inl fun B0 φ H H' w fr a x hR hG hT hd => q_bin hR hG hT _ t t' y z hop hy hz hd
    · simp only [Option.pure_def, Option.bind_eq_bind, Option.bind_eq_some_iff, Option.some.injEq] at hc
      obtain ⟨ty, hty, y', hy, z', hz, rfl⟩ := hc
      exact .inl fun B0 φ H H' w fr a x hR hG hT hd => q_eq hR hG hT false ty t t' y z hop hty hy hz hd
    · simp only [Option.pure_def, Option.bind_eq_bind, Option.bind_eq_some_iff, Option.some.injEq] at hc
      obtain ⟨ty, hty, y', hy, z', hz, rfl⟩ := hc
      exact .inl fun B0 φ H H' w fr a x hR hG hT hd => q_eq hR hG hT true ty t t' y z hop hty hy hz hd
    · cases hc
  | unOp uo t y => exact .inl fun B0 φ H H' w fr a x hR hG hT hd => q_un hR hG hT uo t y hop hc hd
  | convert s d y =>
    simp only [cOp, hop] at hc
    split at hc
    · obtain ⟨y', hy, rfl⟩ := Option.map_eq_some_iff.1 hc
      rename_i k0 k h1 h2
      exact .inl fun B0 φ H H' w fr a x hR hG hT hd => q_convInt hR hG hT s d d k0 k y hop h1 h2 hy hd
    · obtain ⟨y', hy, rfl⟩ := Option.map_eq_some_iff.1 hc
      rename_i h1 h2
      exact .inl fun B0 φ H H' w fr a x hR hG hT hd => q_convStr hR hG hT s d y hop h1 h2 hy hd
    · obtain ⟨y', hy, rfl⟩ := Option.map_eq_some_iff.1 hc
      rename_i k0 h1 h2
      exact .inl fun B0 φ H H' w fr a x hR hG hT hd => q_runeStr hR hG hT s d k0 y hop h1 h2 hy hd
    · rename_i e h1 h2
      split at hc
      · rename_i he
        obtain ⟨y', hy, rfl⟩ := Option.map_eq_some_iff.1 hc
        exact .inr (.inl ⟨fun ρ => da_bytesOf ρ e y', fun ρ H => rfl, fun φ w fr a B mk hG hT hd => n_bytesOf hG hT s d e y hop h1 h2 he hy hd⟩)
      · cases hc
    · rename_i t h1 h2
      split at hc
      · rename_i n hn
        split at hc
        · cases hc
        · rename_i hn0
          obtain ⟨y', hy, rfl⟩ := Option.map_eq_some_iff.1 hc
          exact .inl fun B0 φ H H' w fr a x hR hG hT hd => q_toRaw hR hG hT s d t n y hop h1 h2 hn hn0 hy hd
      · cases hc
    · rename_i u h1 h2
      split at hc
      · rename_i n hn
        split at hc
        · cases hc
        · obtain ⟨y', hy, rfl⟩ := Option.map_eq_some_iff.1 hc
          exact .inl fun B0 φ H H' w fr a x hR hG hT hd => q_ofRaw hR hG hT s d u n y hop h1 h2 hn hy hd
      · cases hc
    · cases hc
  | makeInterface t y => exact .inl fun B0 φ H H' w fr a x hR hG hT hd => q_mkIface hR hG hT t y hop hc hd
  | makeFunc fn first cap =>
    cases fn with
    | func f => exact .inl fun B0 φ H H' w fr a x hR hG hT hd => q_mkFunc hR hG hT f first cap hop hc hd
    | _ => simp [cOp, hop] at hc
  | makeMap t r =>
    cases r with
    | none =>
      simp only [cOp, hop, Option.some.injEq] at hc
      subst hc
      exact .inr (.inl ⟨fun _ => da_mkMap, fun ρ H => rfl, fun φ w fr a B mk hG hT hd => n_mkMap hG hT t hop hd⟩)
    | some _ => simp [cOp, hop] at hc
  | makeSlice t y z =>
    simp only [cOp, hop] at hc
    split at hc
    · rename_i e hu
      simp only [Option.pure_def, Option.bind_eq_bind, Option.bind_eq_some_iff] at hc
      obtain ⟨s, hs, zero, hz, hc⟩ := hc
      split at hc
      · rename_i hcond
        simp only [Option.bind_eq_some_iff, Option.some.injEq] at hc
        obtain ⟨by', hb, y', hy, z', hz', rfl⟩ := hc
        exact .inr (.inl ⟨fun ρ => da_mkSlice ρ e s by' zero y' z', fun ρ H => rfl, fun φ w fr a B mk hG hT hd => n_mkSlice hG hT t e s by' y z hop hu hs hb hz hcond.1 hcond.2 hy hz' hd⟩)
      · cases hc
    · cases hc
  | slice t y lo hi mx =>
    cases mx with
    | some _ => simp [cOp, hop] at hc
    | none =>
      simp only [cOp, hop] at hc
      split at hc
      · rename_i hu
        simp only [Option.pure_def, Option.bind_eq_bind, Option.bind_eq_some_iff, Option.some.injEq] at hc
        obtain ⟨y', hy, lo', h1, hi', h2, rfl⟩ := hc
        exact .inl fun B0 φ H H' w fr a x hR hG hT hd => q_sliceStr hR hG hT t y lo hi hop hu hy h1 h2 hd
      · rename_i e hu
        simp only [Option.pure_def, Option.bind_eq_bind, Option.bind_eq_some_iff] at hc
        obtain ⟨s, hs, hc⟩ := hc
        split at hc
        · simp only [Option.bind_eq_some_iff, Option.some.injEq] at hc
          obtain ⟨y', hy, lo', h1, hi', h2, rfl⟩ := hc
          exact .inl fun B0 φ H H' w fr a x hR hG hT hd => q_sliceSl hR hG hT t e s y lo hi hop hu hs hy h1 h2 hd
        · cases hc
      · rename_i n e hu
        simp only [Option.pure_def, Option.bind_eq_bind, Option.bind_eq_some_iff] at hc
        obtain ⟨s, hs, hc⟩ := hc
        split at hc
        · simp only [Option.bind_eq_some_iff, Option.some.injEq] at hc
          obtain ⟨y', hy, lo', h1, hi', h2, rfl⟩ := hc
          exact .inl fun B0 φ H H' w fr a x hR hG hT hd => q_sliceArr hR hG hT t e n s y lo hi hop hu hs hy h1 h2 hd
        · cases hc
      · cases hc
  | fieldAddr s y f => exact .inl fun B0 φ H H' w fr a x hR hG hT hd => q_addr hR hG hT s y f hop hc hd
  | field t y f => exact .inl fun B0 φ H H' w fr a x hR hG hT hd => q_field hR hG hT t y f hop hc hd
  | indexAddr t y z =>
    simp only [cOp, hop] at hc
    split at hc
    · rename_i e hu
      simp only [Option.pure_def, Option.bind_eq_bind, Option.bind_eq_some_iff] at hc
      obtain ⟨s, hs, hc⟩ := hc
      split at hc
      · simp only [Option.bind_eq_some_iff, Option.some.injEq] at hc
        obtain ⟨y', hy, z', hz, rfl⟩ := hc
        exact .inl fun B0 φ H H' w fr a x hR hG hT hd => q_idxSl hR hG hT t e s y z hop hu hs hy hz hd
      · cases hc
    · rename_i n e hu
      simp only [Option.pure_def, Option.bind_eq_bind, Option.bind_eq_some_iff] at hc
      obtain ⟨s, hs, hc⟩ := hc
      split at hc
      · simp only [Option.bind_eq_some_iff, Option.some.injEq] at hc
        obtain ⟨y', hy, z', hz, rfl⟩ := hc
        exact .inl fun B0 φ H H' w fr a x hR hG hT hd => q_idxArrP hR hG hT t e n s y z hop hu hs hy hz hd
      · cases hc
    · cases hc
  | index t y z =>
    simp only [cOp, hop] at hc
    split at hc
    · rename_i hu
      simp only [Option.pure_def, Option.bind_eq_bind, Option.bind_eq_some_iff, Option.some.injEq] at hc
      obtain ⟨y', hy, z', hz, rfl⟩ := hc
      exact .inl fun B0 φ H H' w fr a x hR hG hT hd => q_idxStr hR hG hT t y z hop hu hy hz hd
    · rename_i n e hu
      simp only [Option.pure_def, Option.bind_eq_bind, Option.bind_eq_some_iff, Option.some.injEq] at hc
      obtain ⟨agg, ha, s, hs, y', hy, z', hz, rfl⟩ := hc
      exact .inl fun B0 φ H H' w fr a x hR hG hT hd => q_idxArr hR hG hT t e agg n s y z hop hu ha hs hy hz hd
    · cases hc
  | lookup t y z okb =>
    simp only [cOp, hop] at hc
    split at hc
    · rename_i k e hu
      simp only [Option.pure_def, Option.bind_eq_bind, Option.bind_eq_some_iff, Option.some.injEq] at hc
      obtain ⟨kt, hk, zero, hz0, y', hy, z', hz, rfl⟩ := hc
      exact .inl fun B0 φ H H' w fr a x hR hG hT hd => q_lookup hR hG hT t k e y z okb hop hu hk hz0 hy hz hd
    · cases hc
  | mapUpdate t y z q =>
    simp only [cOp, hop] at hc
    split at hc
    · rename_i k e hu
      simp only [Option.pure_def, Option.bind_eq_bind, Option.bind_eq_some_iff, Option.some.injEq] at hc
      obtain ⟨kt, hk, y', hy, z', hz, q', hq, rfl⟩ := hc
      exact .inr (.inr ⟨rfl, fun B0 φ H H' w fr a x hR hG hT hd => VRes.toO (e_mapSet hR hG hT t k e y z q (.inl hop) hu hk hy hz hq hd)⟩)
    · cases hc
  | insert t y z q =>
    simp only [cOp, hop] at hc
    split at hc
    · rename_i k e hu
      simp only [Option.pure_def, Option.bind_eq_bind, Option.bind_eq_some_iff, Option.some.injEq] at hc
      obtain ⟨kt, hk, y', hy, z', hz, q', hq, rfl⟩ := hc
      exact .inr (.inr ⟨rfl, fun B0 φ H H' w fr a x hR hG hT hd => VRes.toO (e_mapSet hR hG hT t k e y z q (.inr hop) hu hk hy hz hq hd)⟩)
    · cases hc
  | typeAssert y t' t okb => exact .inl fun B0 φ H H' w fr a x hR hG hT hd => q_assertC hR hG hT t t' y okb hop hc hd
  | extract y k => exact .inl fun B0 φ H H' w fr a x hR hG hT hd => q_extract hR hG hT y k hop hc hd
  | panic y =>
    simp only [cOp, hop, Option.map_eq_some_iff] at hc
    obtain ⟨y', hy, rfl⟩ := hc
    exact .inr (.inr ⟨rfl, fun B0 φ H H' w fr a x hR hG hT hd => e_panic hR hG hT y hop hy hd⟩)
  | defer c =>
    obtain ⟨callee, args, ts⟩ := c
    cases callee with
    | value f =>
      simp only [cOp, hop, Option.pure_def, Option.bind_eq_bind, Option.bind_eq_some_iff, Option.some.injEq] at hc
      obtain ⟨f', hf, l, hl, rfl⟩ := hc
      exact .inr (.inr ⟨rfl, fun B0 φ H H' w fr a x hR hG hT hd => e_defer hR hG hT f args ts hop hf hl hd⟩)
    | _ => simp [cOp, hop] at hc
  | call c =>
    obtain ⟨callee, args, ts⟩ := c
    cases callee with
    | value f =>
      simp only [cOp, hop] at hc
      split at hc
      · rename_i e he
        simp only [Option.pure_def, Option.bind_eq_bind, Option.bind_eq_some_iff, Option.some.injEq] at hc
        obtain ⟨l, hl, rfl⟩ := hc
        exact .inr (.inr ⟨rfl, fun B0 φ H H' w fr a x hR hG hT hd => e_ext hR hG hT f args ts hop he hl hd⟩)
      · simp only [Option.pure_def, Option.bind_eq_bind, Option.bind_eq_some_iff, Option.some.injEq] at hc
        obtain ⟨f', hf, l, hl, rfl⟩ := hc
        exact .inr (.inr ⟨rfl, fun B0 φ H H' w fr a x hR hG hT hd => e_call hR hG hT f args ts hop hf hl hd⟩)
    | invoke r m => simp [cOp, hop] at hc
    | builtin b =>
      have hc' : cBuiltin P b args.toList ts.toList = some op := by simpa only [cOp, hop] using hc
      clear hc
      unfold cBuiltin at hc'
      split at hc'
      · rename_i s y t u h1 h2
        have ha : args = #[s, y] := Array.toList_inj.1 (by simpa using h1)
        have ht : ts = #[t, u] := Array.toList_inj.1 (by simpa using h2)
        subst ha; subst ht
        unfold cAppend at hc'
        split at hc'
        · rename_i e e' hu hu'
          simp only [Option.pure_def, Option.bind_eq_bind, Option.bind_eq_some_iff] at hc'
          obtain ⟨s', hs, hc'⟩ := hc'
          split at hc'
          · rename_i hcond
            simp only [Option.bind_eq_some_iff, Option.some.injEq] at hc'
            obtain ⟨by', hb, y', hy, z', hz, rfl⟩ := hc'
            exact .inr (.inr ⟨rfl, fun B0 φ H H' w fr a x hR hG hT hd => VRes.toO (e_append hR hG hT t u e e' s' by' s y hop hu hu' hs hb hcond.2 hcond.1 hy hz hd)⟩)
          · cases hc'
        · rename_i e hu hu'
          split at hc'
          · rename_i hcond
            simp only [Option.pure_def, Option.bind_eq_bind, Option.bind_eq_some_iff, Option.some.injEq] at hc'
            obtain ⟨y', hy, z', hz, rfl⟩ := hc'
            exact .inr (.inr ⟨rfl, fun B0 φ H H' w fr a x hR hG hT hd => VRes.toO (e_appendStr hR hG hT t u e s y hop hu hu' hcond.1 hcond.2.1 hcond.2.2 hy hz hd)⟩)
          · cases hc'
        · cases hc'
      · rename_i y t h1 h2
        have ha : args = #[y] := Array.toList_inj.1 (by simpa using h1)
        have ht : ts = #[t] := Array.toList_inj.1 (by simpa using h2)
        subst ha; subst ht
        unfold cLen at hc'
        split at hc'
        · rename_i hu
          obtain ⟨y', hy, rfl⟩ := Option.map_eq_some_iff.1 hc'
          exact .inl fun B0 φ H H' w fr a x hR hG hT hd => q_len hR hG hT y t y' 0 hop (.inl ⟨rfl, hu⟩) hy hd
        · rename_i e hu
          obtain ⟨y', hy, rfl⟩ := Option.map_eq_some_iff.1 hc'
          exact .inl fun B0 φ H H' w fr a x hR hG hT hd => q_len hR hG hT y t y' 1 hop (.inr (.inl ⟨e, rfl, hu⟩)) hy hd
        · rename_i k e hu
          obtain ⟨y', hy, rfl⟩ := Option.map_eq_some_iff.1 hc'
          exact .inl fun B0 φ H H' w fr a x hR hG hT hd => q_len hR hG hT y t y' 2 hop (.inr (.inr ⟨k, e, rfl, hu⟩)) hy hd
        · cases hc'
      · obtain ⟨l, hl, rfl⟩ := Option.map_eq_some_iff.1 hc'
        exact .inl fun B0 φ H H' w fr a x hR hG hT hd => q_maxmin hR hG hT true args ts l hop hl hd
      · obtain ⟨l, hl, rfl⟩ := Option.map_eq_some_iff.1 hc'
        exact .inl fun B0 φ H H' w fr a x hR hG hT hd => q_maxmin hR hG hT false args ts l hop hl hd
      · rename_i h1
        have ha : args = #[] := Array.toList_inj.1 (by simpa using h1)
        subst ha
        cases hc'
        exact .inr (.inr ⟨rfl, fun B0 φ H H' w fr a x hR hG hT hd => e_recover hR hG hT ts hop hd⟩)
      · rename_i y h1
        have ha : args = #[y] := Array.toList_inj.1 (by simpa using h1)
        subst ha
        obtain ⟨y', hy, rfl⟩ := Option.map_eq_some_iff.1 hc'
        exact .inl fun B0 φ H H' w fr a x hR hG hT hd => q_sliceData hR hG hT y ts y' hop hy hd
      · rename_i p n pt it h1 h2
        have ha : args = #[p, n] := Array.toList_inj.1 (by simpa using h1)
        have ht : ts = #[pt, it] := Array.toList_inj.1 (by simpa using h2)
        subst ha; subst ht
        unfold cRaw at hc'
        split at hc'
        · rename_i e hu
          split at hc'
          · rename_i hs
            simp only [Option.pure_def, Option.bind_eq_bind, Option.bind_eq_some_iff, Option.some.injEq] at hc'
            obtain ⟨y', hy, z', hz, rfl⟩ := hc'
            exact .inr (.inr ⟨rfl, fun B0 φ H H' w fr a x hR hG hT hd => VRes.toO (e_rawStr hR hG hT _ pt e p n hop ⟨it, rfl⟩ hu hs hy hz hd)⟩)
          · cases hc'
        · cases hc'
      · cases hc'
  | _ => simp [cOp, hop] at hc
end
end Go.Proofs.YtfmmgggdgpfaaaaGreatDoor.DS
