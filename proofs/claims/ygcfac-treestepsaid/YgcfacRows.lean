/-
  No cell of these rows narrows 'for every input' (looked for: loops, veiled, ifaces, maps, wideKeys, modest, calm, conditions, laid).
  DERIVED. THE GIVEN ROWS OF THIS SEAT. 12 by the template 'for every input the law returns true; each argument reads behind the call as it read before'; 0 by the template 'total and deterministic' (their statements: YgcfacTotals.lean).
  GIVEN WITH THE SEED: the statements are not yours to turn. If you find one false, say at which input.
  Laid BY PROGRAM, IN A SANDBOX (cutbox-rows.mjs): the forced cells as the released guide's own fill.sh prints them over the translation 3f16afe7b5f6e864… (all of the seat's roots in one cut). By AI agents, Wed Nov 11 2026. No macro, syntax, notation, axiom, sorry.
-/
import Derived.Test.YgcfacChecked
import GoSem.Claim
import GoSem.ClaimJoined
import GoSem.ClaimMapViews
import Derived.JoinedTies
import Derived.KernelRfl
namespace Go.Proofs.Ygcfac
/- THE CELL 'sum', in the pinned program and in every row, IS THE sha256 OF THE DUMP (.gsa) THAT YgcfacProg.lean LOADS. Nothing in Lean hashes anything: it is a label: what it is worth is what the hold of that sum in a sandbox is worth. -/
noncomputable def Facg.pinned : Pinned := { name := "ygcfac", sum := "3f16afe7b5f6e86408f8ce1ff721a919df3a10167647c85bdbd594946a2a8a59", checked := Facg.checked }
namespace Rows
def none {H : Type} : Left H := { results := [], args := [] }

/-- 'law.ExplainRight': WHATEVER THE INPUT: true; the input reads as it did. -/
def explainRightSpec : ChangeSpec := { name := "explainRight", fn := fun _ => fun
  | [d] => { results := [.lit (.bool true)], args := [d] }
  | _ => none }
def explainRightRow : OpenClaim := { program := "ygcfac", sum := "3f16afe7b5f6e86408f8ce1ff721a919df3a10167647c85bdbd594946a2a8a59", func := "wordview/law.ExplainRight", spec := "explainRight", apart := false }
def ExplainRightSaid : Prop := explainRightRow.holds Facg.pinned (OpenSpec.ofChange explainRightSpec)

/-- ITS FALSE NEIGHBOUR: 'it returns false'. Refute it at one input. -/
def explainRightWrong : ChangeSpec := { name := "explainRight", fn := fun _ => fun
  | [d] => { results := [.lit (.bool false)], args := [d] }
  | _ => none }
def ExplainRightWrongFalsely : Prop := explainRightRow.holds Facg.pinned (OpenSpec.ofChange explainRightWrong)

/-- 'law.FrameBack': WHATEVER THE INPUT: true; the input reads as it did. -/
def frameBackSpec : ChangeSpec := { name := "frameBack", fn := fun _ => fun
  | [d1, d2] => { results := [.lit (.bool true)], args := [d1, d2] }
  | _ => none }
def frameBackRow : OpenClaim := { program := "ygcfac", sum := "3f16afe7b5f6e86408f8ce1ff721a919df3a10167647c85bdbd594946a2a8a59", func := "wordview/law.FrameBack", spec := "frameBack", apart := false }
def FrameBackSaid : Prop := frameBackRow.holds Facg.pinned (OpenSpec.ofChange frameBackSpec)

/-- ITS FALSE NEIGHBOUR: 'it returns false'. Refute it at one input. -/
def frameBackWrong : ChangeSpec := { name := "frameBack", fn := fun _ => fun
  | [d1, d2] => { results := [.lit (.bool false)], args := [d1, d2] }
  | _ => none }
def FrameBackWrongFalsely : Prop := frameBackRow.holds Facg.pinned (OpenSpec.ofChange frameBackWrong)

/-- 'law.FrameCodes': WHATEVER THE INPUT: true; the input reads as it did. -/
def frameCodesSpec : ChangeSpec := { name := "frameCodes", fn := fun _ => fun
  | [d] => { results := [.lit (.bool true)], args := [d] }
  | _ => none }
def frameCodesRow : OpenClaim := { program := "ygcfac", sum := "3f16afe7b5f6e86408f8ce1ff721a919df3a10167647c85bdbd594946a2a8a59", func := "wordview/law.FrameCodes", spec := "frameCodes", apart := false }
def FrameCodesSaid : Prop := frameCodesRow.holds Facg.pinned (OpenSpec.ofChange frameCodesSpec)

/-- ITS FALSE NEIGHBOUR: 'it returns false'. Refute it at one input. -/
def frameCodesWrong : ChangeSpec := { name := "frameCodes", fn := fun _ => fun
  | [d] => { results := [.lit (.bool false)], args := [d] }
  | _ => none }
def FrameCodesWrongFalsely : Prop := frameCodesRow.holds Facg.pinned (OpenSpec.ofChange frameCodesWrong)

/-- 'law.FrameFlip': WHATEVER THE INPUT: true; the input reads as it did. -/
def frameFlipSpec : ChangeSpec := { name := "frameFlip", fn := fun _ => fun
  | [d1, d2, d3, d4] => { results := [.lit (.bool true)], args := [d1, d2, d3, d4] }
  | _ => none }
def frameFlipRow : OpenClaim := { program := "ygcfac", sum := "3f16afe7b5f6e86408f8ce1ff721a919df3a10167647c85bdbd594946a2a8a59", func := "wordview/law.FrameFlip", spec := "frameFlip", apart := false }
def FrameFlipSaid : Prop := frameFlipRow.holds Facg.pinned (OpenSpec.ofChange frameFlipSpec)

/-- ITS FALSE NEIGHBOUR: 'it returns false'. Refute it at one input. -/
def frameFlipWrong : ChangeSpec := { name := "frameFlip", fn := fun _ => fun
  | [d1, d2, d3, d4] => { results := [.lit (.bool false)], args := [d1, d2, d3, d4] }
  | _ => none }
def FrameFlipWrongFalsely : Prop := frameFlipRow.holds Facg.pinned (OpenSpec.ofChange frameFlipWrong)

/-- 'law.NaturalRight': WHATEVER THE INPUT: true; the input reads as it did. -/
def naturalRightSpec : ChangeSpec := { name := "naturalRight", fn := fun _ => fun
  | [d1, d2] => { results := [.lit (.bool true)], args := [d1, d2] }
  | _ => none }
def naturalRightRow : OpenClaim := { program := "ygcfac", sum := "3f16afe7b5f6e86408f8ce1ff721a919df3a10167647c85bdbd594946a2a8a59", func := "wordview/law.NaturalRight", spec := "naturalRight", apart := false }
def NaturalRightSaid : Prop := naturalRightRow.holds Facg.pinned (OpenSpec.ofChange naturalRightSpec)

/-- ITS FALSE NEIGHBOUR: 'it returns false'. Refute it at one input. -/
def naturalRightWrong : ChangeSpec := { name := "naturalRight", fn := fun _ => fun
  | [d1, d2] => { results := [.lit (.bool false)], args := [d1, d2] }
  | _ => none }
def NaturalRightWrongFalsely : Prop := naturalRightRow.holds Facg.pinned (OpenSpec.ofChange naturalRightWrong)

/-- 'law.Hostile': WHATEVER THE INPUT: true; the input reads as it did. -/
def hostileSpec : ChangeSpec := { name := "hostile", fn := fun _ => fun
  | [d1, d2, d3, d4] => { results := [.lit (.bool true)], args := [d1, d2, d3, d4] }
  | _ => none }
def hostileRow : OpenClaim := { program := "ygcfac", sum := "3f16afe7b5f6e86408f8ce1ff721a919df3a10167647c85bdbd594946a2a8a59", func := "wordview/law.Hostile", spec := "hostile", apart := false }
def HostileSaid : Prop := hostileRow.holds Facg.pinned (OpenSpec.ofChange hostileSpec)

/-- ITS FALSE NEIGHBOUR: 'it returns false'. Refute it at one input. -/
def hostileWrong : ChangeSpec := { name := "hostile", fn := fun _ => fun
  | [d1, d2, d3, d4] => { results := [.lit (.bool false)], args := [d1, d2, d3, d4] }
  | _ => none }
def HostileWrongFalsely : Prop := hostileRow.holds Facg.pinned (OpenSpec.ofChange hostileWrong)

/-- 'law.InsideMeans': WHATEVER THE INPUT: true; the input reads as it did. -/
def insideMeansSpec : ChangeSpec := { name := "insideMeans", fn := fun _ => fun
  | [d1, d2, d3, d4] => { results := [.lit (.bool true)], args := [d1, d2, d3, d4] }
  | _ => none }
def insideMeansRow : OpenClaim := { program := "ygcfac", sum := "3f16afe7b5f6e86408f8ce1ff721a919df3a10167647c85bdbd594946a2a8a59", func := "wordview/law.InsideMeans", spec := "insideMeans", apart := false }
def InsideMeansSaid : Prop := insideMeansRow.holds Facg.pinned (OpenSpec.ofChange insideMeansSpec)

/-- ITS FALSE NEIGHBOUR: 'it returns false'. Refute it at one input. -/
def insideMeansWrong : ChangeSpec := { name := "insideMeans", fn := fun _ => fun
  | [d1, d2, d3, d4] => { results := [.lit (.bool false)], args := [d1, d2, d3, d4] }
  | _ => none }
def InsideMeansWrongFalsely : Prop := insideMeansRow.holds Facg.pinned (OpenSpec.ofChange insideMeansWrong)

/-- 'law.TreeStep': WHATEVER THE INPUT: true; the input reads as it did. -/
def treeStepSpec : ChangeSpec := { name := "treeStep", fn := fun _ => fun
  | [d1, d2] => { results := [.lit (.bool true)], args := [d1, d2] }
  | _ => none }
def treeStepRow : OpenClaim := { program := "ygcfac", sum := "3f16afe7b5f6e86408f8ce1ff721a919df3a10167647c85bdbd594946a2a8a59", func := "wordview/law.TreeStep", spec := "treeStep", apart := false }
def TreeStepSaid : Prop := treeStepRow.holds Facg.pinned (OpenSpec.ofChange treeStepSpec)

/-- ITS FALSE NEIGHBOUR: 'it returns false'. Refute it at one input. -/
def treeStepWrong : ChangeSpec := { name := "treeStep", fn := fun _ => fun
  | [d1, d2] => { results := [.lit (.bool false)], args := [d1, d2] }
  | _ => none }
def TreeStepWrongFalsely : Prop := treeStepRow.holds Facg.pinned (OpenSpec.ofChange treeStepWrong)

/-- 'law.UnpackStep': WHATEVER THE INPUT: true; the input reads as it did. -/
def unpackStepSpec : ChangeSpec := { name := "unpackStep", fn := fun _ => fun
  | [d] => { results := [.lit (.bool true)], args := [d] }
  | _ => none }
def unpackStepRow : OpenClaim := { program := "ygcfac", sum := "3f16afe7b5f6e86408f8ce1ff721a919df3a10167647c85bdbd594946a2a8a59", func := "wordview/law.UnpackStep", spec := "unpackStep", apart := false }
def UnpackStepSaid : Prop := unpackStepRow.holds Facg.pinned (OpenSpec.ofChange unpackStepSpec)

/-- ITS FALSE NEIGHBOUR: 'it returns false'. Refute it at one input. -/
def unpackStepWrong : ChangeSpec := { name := "unpackStep", fn := fun _ => fun
  | [d] => { results := [.lit (.bool false)], args := [d] }
  | _ => none }
def UnpackStepWrongFalsely : Prop := unpackStepRow.holds Facg.pinned (OpenSpec.ofChange unpackStepWrong)

/-- 'law.ValidStep': WHATEVER THE INPUT: true; the input reads as it did. -/
def validStepSpec : ChangeSpec := { name := "validStep", fn := fun _ => fun
  | [d1, d2] => { results := [.lit (.bool true)], args := [d1, d2] }
  | _ => none }
def validStepRow : OpenClaim := { program := "ygcfac", sum := "3f16afe7b5f6e86408f8ce1ff721a919df3a10167647c85bdbd594946a2a8a59", func := "wordview/law.ValidStep", spec := "validStep", apart := false }
def ValidStepSaid : Prop := validStepRow.holds Facg.pinned (OpenSpec.ofChange validStepSpec)

/-- ITS FALSE NEIGHBOUR: 'it returns false'. Refute it at one input. -/
def validStepWrong : ChangeSpec := { name := "validStep", fn := fun _ => fun
  | [d1, d2] => { results := [.lit (.bool false)], args := [d1, d2] }
  | _ => none }
def ValidStepWrongFalsely : Prop := validStepRow.holds Facg.pinned (OpenSpec.ofChange validStepWrong)

/-- 'law.ValidDeep': WHATEVER THE INPUT: true; the input reads as it did. -/
def validDeepSpec : ChangeSpec := { name := "validDeep", fn := fun _ => fun
  | [d] => { results := [.lit (.bool true)], args := [d] }
  | _ => none }
def validDeepRow : OpenClaim := { program := "ygcfac", sum := "3f16afe7b5f6e86408f8ce1ff721a919df3a10167647c85bdbd594946a2a8a59", func := "wordview/law.ValidDeep", spec := "validDeep", recurses := true, apart := false }
def ValidDeepSaid : Prop := validDeepRow.holds Facg.pinned (OpenSpec.ofChange validDeepSpec)

/-- ITS FALSE NEIGHBOUR: 'it returns false'. Refute it at one input. -/
def validDeepWrong : ChangeSpec := { name := "validDeep", fn := fun _ => fun
  | [d] => { results := [.lit (.bool false)], args := [d] }
  | _ => none }
def ValidDeepWrongFalsely : Prop := validDeepRow.holds Facg.pinned (OpenSpec.ofChange validDeepWrong)

/-- 'law.BuildStep': WHATEVER THE INPUT: true; the input reads as it did. -/
def buildStepSpec : ChangeSpec := { name := "buildStep", fn := fun _ => fun
  | [d1, d2] => { results := [.lit (.bool true)], args := [d1, d2] }
  | _ => none }
def buildStepRow : OpenClaim := { program := "ygcfac", sum := "3f16afe7b5f6e86408f8ce1ff721a919df3a10167647c85bdbd594946a2a8a59", func := "wordview/law.BuildStep", spec := "buildStep", apart := false }
def BuildStepSaid : Prop := buildStepRow.holds Facg.pinned (OpenSpec.ofChange buildStepSpec)

/-- ITS FALSE NEIGHBOUR: 'it returns false'. Refute it at one input. -/
def buildStepWrong : ChangeSpec := { name := "buildStep", fn := fun _ => fun
  | [d1, d2] => { results := [.lit (.bool false)], args := [d1, d2] }
  | _ => none }
def BuildStepWrongFalsely : Prop := buildStepRow.holds Facg.pinned (OpenSpec.ofChange buildStepWrong)

end Rows
end Go.Proofs.Ygcfac
