/- The closed runs of the twin: strings.Fields of the words that are kept; awake, with that known beforehand; HostNothing, with awake known beforehand. -/
import Derived.Test.YtfmmgggdgpfaaaaGreatDoorProg
import Derived.Test.YtfmmgggdgpfaaaaGreatDoorDcomp
import Derived.KernelRfl
namespace Go.Proofs.YtfmmgggdgpfaaaaGreatDoor.DS
set_option linter.unusedVariables false
set_option linter.unusedSimpArgs false
open Go.Proofs
noncomputable def asciiCells : List DV := (List.range 256).map fun i => .int .u8 (if i = 9 ∨ i = 10 ∨ i = 11 ∨ i = 12 ∨ i = 13 ∨ i = 32 then 1 else 0)
noncomputable def ascBlk : DBlk := { own := false, obj := .cells asciiCells 168 256 false true }
noncomputable def HG : DH := { next := 9, mem := Tr.put .nil 1 ascBlk }
def keptText : List UInt8 := [112, 114, 111, 103, 114, 97, 109, 32, 118, 97, 114, 32, 105, 110, 116, 32, 116, 101, 120, 116, 32, 108, 101, 116, 32, 112, 114, 105, 110, 116, 32, 115, 116, 111, 112, 32, 105, 102, 32, 101, 108, 115, 101, 32, 119, 104, 105, 108, 101, 32, 111, 114, 32, 97, 110, 100, 32, 110, 111, 116, 32, 115, 116, 97, 116, 117, 115, 32, 107, 101, 121, 32, 102, 105, 110, 100, 32, 111, 98, 116, 97, 105, 110, 32, 103, 101, 116, 32, 115, 116, 111, 114, 101, 32, 109, 111, 100, 105, 102, 121, 32, 101, 114, 97, 115, 101, 32, 99, 111, 110, 110, 101, 99, 116, 32, 100, 105, 115, 99, 111, 110, 110, 101, 99, 116, 32, 114, 101, 99, 111, 110, 110, 101, 99, 116, 32, 107, 101, 101, 112, 32, 102, 114, 101, 101, 32, 109, 111, 118, 101, 32, 102, 105, 114, 115, 116, 32, 108, 97, 115, 116, 32, 110, 101, 120, 116, 32, 112, 114, 105, 111, 114, 32, 110, 116, 104, 32, 97, 110, 121, 32, 100, 117, 112, 32, 99, 117, 114, 114, 101, 110, 116, 32, 119, 105, 116, 104, 105, 110, 32, 117, 115, 105, 110, 103, 32, 114, 101, 116, 97, 105, 110, 105, 110, 103, 32, 111, 119, 110, 101, 114, 32, 109, 101, 109, 98, 101, 114, 32, 101, 109, 112, 116, 121, 32, 114, 101, 99, 111, 114, 100, 32, 97, 114, 101, 97, 32, 116, 111, 32, 97, 108, 108, 32, 112, 101, 114, 109, 97, 110, 101, 110, 116, 32, 115, 101, 108, 101, 99, 116, 105, 118, 101, 32, 111, 102, 32, 105, 110, 115, 105, 100, 101]
noncomputable def keptWords : List DV := [.str [112, 114, 111, 103, 114, 97, 109], .str [118, 97, 114], .str [105, 110, 116], .str [116, 101, 120, 116], .str [108, 101, 116], .str [112, 114, 105, 110, 116], .str [115, 116, 111, 112], .str [105, 102], .str [101, 108, 115, 101], .str [119, 104, 105, 108, 101], .str [111, 114], .str [97, 110, 100], .str [110, 111, 116], .str [115, 116, 97, 116, 117, 115], .str [107, 101, 121], .str [102, 105, 110, 100], .str [111, 98, 116, 97, 105, 110], .str [103, 101, 116], .str [115, 116, 111, 114, 101], .str [109, 111, 100, 105, 102, 121], .str [101, 114, 97, 115, 101], .str [99, 111, 110, 110, 101, 99, 116], .str [100, 105, 115, 99, 111, 110, 110, 101, 99, 116], .str [114, 101, 99, 111, 110, 110, 101, 99, 116], .str [107, 101, 101, 112], .str [102, 114, 101, 101], .str [109, 111, 118, 101], .str [102, 105, 114, 115, 116], .str [108, 97, 115, 116], .str [110, 101, 120, 116], .str [112, 114, 105, 111, 114], .str [110, 116, 104], .str [97, 110, 121], .str [100, 117, 112], .str [99, 117, 114, 114, 101, 110, 116], .str [119, 105, 116, 104, 105, 110], .str [117, 115, 105, 110, 103], .str [114, 101, 116, 97, 105, 110, 105, 110, 103], .str [111, 119, 110, 101, 114], .str [109, 101, 109, 98, 101, 114], .str [101, 109, 112, 116, 121], .str [114, 101, 99, 111, 114, 100], .str [97, 114, 101, 97], .str [116, 111], .str [97, 108, 108], .str [112, 101, 114, 109, 97, 110, 101, 110, 116], .str [115, 101, 108, 101, 99, 116, 105, 118, 101], .str [111, 102], .str [105, 110, 115, 105, 100, 101]]
noncomputable def keptBlk : DBlk := { own := true, obj := .cells keptWords 9 0 true false }
noncomputable def fieldsRun : Option (DEnd × Bool × DH) := drun noX Tryz.prog (dprog Tryz.prog) 1000 (.fn false none 88 [.str keptText]) HG
noncomputable def fieldsRight : Option (DEnd × Bool × DH) → Bool
  | some (.ret (.slice d off len esz), recd, H') => !recd && Nat.beq off 0 && Nat.beq len 49 && Nat.beq esz 1 && (match H'.get d with | some { own := own, obj := .cells cs e frz ex mk } => own && DV.beqs cs keptWords && Nat.beq e 9 && Nat.beq frz 0 && ex && !mk | _ => false)
  | _ => false
theorem fields_ran : fieldsRight fieldsRun = true := by decide +kernel

/-- The variable lies as the package lays it. -/
noncomputable def isAsc (H : DH) : Bool :=
  match H.get 1 with
  | some { own := own, obj := .cells cs e frz ex mk } => !own && DV.beqs cs asciiCells && Nat.beq e 168 && Nat.beq frz 256 && !ex && mk
  | _ => false
noncomputable def X2 : Tgt → DH → Option (DEnd × Bool × DH)
  | .fn false none f [.str s], H => bif Nat.beq f 88 && (s == keptText) && isAsc H then some (.ret (.slice H.next 0 49 1), false, H.new keptBlk) else none
  | _, _ => none
noncomputable def isTrue : Option (DEnd × Bool × DH) → Bool
  | some (.ret (.bool b), recd, _) => b && !recd
  | _ => false
noncomputable def awakeRun : Option (DEnd × Bool × DH) := drun X2 Tryz.prog (dprog Tryz.prog) 1000 (.fn false none 4 []) HG
theorem awake_ran : isTrue awakeRun = true := by decide +kernel

noncomputable def X3 : Tgt → DH → Option (DEnd × Bool × DH)
  | .fn false none f [], H => bif Nat.beq f 4 && isAsc H then some (.ret (.bool true), false, H) else none
  | _, _ => none
noncomputable def nothingRun (s : List UInt8) : Option (DEnd × Bool × DH) := drun X3 Tryz.prog (dprog Tryz.prog) 20 (.fn false none 3 [.str s]) HG
theorem nothing_runs : (fun s => isTrue (nothingRun s)) = fun _ => true := by kernel_rfl
theorem nothing_ran (s : List UInt8) : isTrue (nothingRun s) = true := congrFun nothing_runs s
end Go.Proofs.YtfmmgggdgpfaaaaGreatDoor.DS
