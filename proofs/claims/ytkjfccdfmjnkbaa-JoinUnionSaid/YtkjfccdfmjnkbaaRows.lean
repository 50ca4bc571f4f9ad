/-
  No cell of these rows narrows 'for every input' (looked for: loops, veiled, ifaces, maps, wideKeys, modest, calm, conditions, laid).
  DERIVED. THE GIVEN ROWS OF THIS SEAT. 10 by the template 'for every input the law returns true; each argument reads behind the call as it read before'; 0 by the template 'total and deterministic' (their statements: YtkjfccdfmjnkbaaTotals.lean).
  GIVEN WITH THE SEED: the statements are not yours to turn. If you find one false, say at which input.
  Laid BY PROGRAM, IN A SANDBOX (cutbox-rows.mjs): the forced cells as the released guide's own fill.sh prints them over the translation def701c8da759f80… (all of the seat's roots in one cut). By AI agents, Wed Nov 11 2026. No macro, syntax, notation, axiom, sorry.
-/
import Derived.Test.YtkjfccdfmjnkbaaChecked
import GoSem.Claim
import GoSem.ClaimJoined
import GoSem.ClaimMapViews
import Derived.JoinedTies
import Derived.KernelRfl
namespace Go.Proofs.Ytkjfccdfmjnkbaa
/- THE CELL 'sum', in the pinned program and in every row, IS THE sha256 OF THE DUMP (.gsa) THAT YtkjfccdfmjnkbaaProg.lean LOADS. Nothing in Lean hashes anything: it is a label: what it is worth is what the hold of that sum in a sandbox is worth. -/
noncomputable def Try.pinned : Pinned := { name := "ytkjfccdfmjnkbaa", sum := "def701c8da759f8087858db64180346aef44fc2affde437e7974b8cbdd0c00fc", checked := Try.checked }
namespace Rows
def none {H : Type} : Left H := { results := [], args := [] }

/-- 'rotakeep.MeetSame': WHATEVER THE INPUT: true; the input reads as it did. -/
def meetSameSpec : ChangeSpec := { name := "meetSame", fn := fun _ => fun
  | [d1, d2, d3] => { results := [.lit (.bool true)], args := [d1, d2, d3] }
  | _ => none }
def meetSameRow : OpenClaim := { program := "ytkjfccdfmjnkbaa", sum := "def701c8da759f8087858db64180346aef44fc2affde437e7974b8cbdd0c00fc", func := "rota/rotakeep.MeetSame", spec := "meetSame", unfollowed := true, recurses := true, apart := false }
def MeetSameSaid : Prop := meetSameRow.holds Try.pinned (OpenSpec.ofChange meetSameSpec)

/-- ITS FALSE NEIGHBOUR: 'it returns false'. Refute it at one input. -/
def meetSameWrong : ChangeSpec := { name := "meetSame", fn := fun _ => fun
  | [d1, d2, d3] => { results := [.lit (.bool false)], args := [d1, d2, d3] }
  | _ => none }
def MeetSameWrongFalsely : Prop := meetSameRow.holds Try.pinned (OpenSpec.ofChange meetSameWrong)

/-- 'rotakeep.MeetUnion': WHATEVER THE INPUT: true; the input reads as it did. -/
def meetUnionSpec : ChangeSpec := { name := "meetUnion", fn := fun _ => fun
  | [d1, d2] => { results := [.lit (.bool true)], args := [d1, d2] }
  | _ => none }
def meetUnionRow : OpenClaim := { program := "ytkjfccdfmjnkbaa", sum := "def701c8da759f8087858db64180346aef44fc2affde437e7974b8cbdd0c00fc", func := "rota/rotakeep.MeetUnion", spec := "meetUnion", unfollowed := true, recurses := true, apart := false }
def MeetUnionSaid : Prop := meetUnionRow.holds Try.pinned (OpenSpec.ofChange meetUnionSpec)

/-- ITS FALSE NEIGHBOUR: 'it returns false'. Refute it at one input. -/
def meetUnionWrong : ChangeSpec := { name := "meetUnion", fn := fun _ => fun
  | [d1, d2] => { results := [.lit (.bool false)], args := [d1, d2] }
  | _ => none }
def MeetUnionWrongFalsely : Prop := meetUnionRow.holds Try.pinned (OpenSpec.ofChange meetUnionWrong)

/-- 'rotakeep.KindsUniform': WHATEVER THE INPUT: true; the input reads as it did. -/
def kindsUniformSpec : ChangeSpec := { name := "kindsUniform", fn := fun _ => fun
  | [d1, d2] => { results := [.lit (.bool true)], args := [d1, d2] }
  | _ => none }
def kindsUniformRow : OpenClaim := { program := "ytkjfccdfmjnkbaa", sum := "def701c8da759f8087858db64180346aef44fc2affde437e7974b8cbdd0c00fc", func := "rota/rotakeep.KindsUniform", spec := "kindsUniform", unfollowed := true, recurses := true, apart := false }
def KindsUniformSaid : Prop := kindsUniformRow.holds Try.pinned (OpenSpec.ofChange kindsUniformSpec)

/-- ITS FALSE NEIGHBOUR: 'it returns false'. Refute it at one input. -/
def kindsUniformWrong : ChangeSpec := { name := "kindsUniform", fn := fun _ => fun
  | [d1, d2] => { results := [.lit (.bool false)], args := [d1, d2] }
  | _ => none }
def KindsUniformWrongFalsely : Prop := kindsUniformRow.holds Try.pinned (OpenSpec.ofChange kindsUniformWrong)

/-- 'rotakeep.MinorsFree': WHATEVER THE INPUT: true; the input reads as it did. -/
def minorsFreeSpec : ChangeSpec := { name := "minorsFree", fn := fun _ => fun
  | [d1, d2] => { results := [.lit (.bool true)], args := [d1, d2] }
  | _ => none }
def minorsFreeRow : OpenClaim := { program := "ytkjfccdfmjnkbaa", sum := "def701c8da759f8087858db64180346aef44fc2affde437e7974b8cbdd0c00fc", func := "rota/rotakeep.MinorsFree", spec := "minorsFree", unfollowed := true, recurses := true, apart := false }
def MinorsFreeSaid : Prop := minorsFreeRow.holds Try.pinned (OpenSpec.ofChange minorsFreeSpec)

/-- ITS FALSE NEIGHBOUR: 'it returns false'. Refute it at one input. -/
def minorsFreeWrong : ChangeSpec := { name := "minorsFree", fn := fun _ => fun
  | [d1, d2] => { results := [.lit (.bool false)], args := [d1, d2] }
  | _ => none }
def MinorsFreeWrongFalsely : Prop := minorsFreeRow.holds Try.pinned (OpenSpec.ofChange minorsFreeWrong)

/-- 'rotakeep.FlatsModular': WHATEVER THE INPUT: true; the input reads as it did. -/
def flatsModularSpec : ChangeSpec := { name := "flatsModular", fn := fun _ => fun
  | [d1, d2] => { results := [.lit (.bool true)], args := [d1, d2] }
  | _ => none }
def flatsModularRow : OpenClaim := { program := "ytkjfccdfmjnkbaa", sum := "def701c8da759f8087858db64180346aef44fc2affde437e7974b8cbdd0c00fc", func := "rota/rotakeep.FlatsModular", spec := "flatsModular", unfollowed := true, recurses := true, apart := false }
def FlatsModularSaid : Prop := flatsModularRow.holds Try.pinned (OpenSpec.ofChange flatsModularSpec)

/-- ITS FALSE NEIGHBOUR: 'it returns false'. Refute it at one input. -/
def flatsModularWrong : ChangeSpec := { name := "flatsModular", fn := fun _ => fun
  | [d1, d2] => { results := [.lit (.bool false)], args := [d1, d2] }
  | _ => none }
def FlatsModularWrongFalsely : Prop := flatsModularRow.holds Try.pinned (OpenSpec.ofChange flatsModularWrong)

/-- 'rotakeep.JoinCovers': WHATEVER THE INPUT: true; the input reads as it did. -/
def joinCoversSpec : ChangeSpec := { name := "joinCovers", fn := fun _ => fun
  | [d] => { results := [.lit (.bool true)], args := [d] }
  | _ => none }
def joinCoversRow : OpenClaim := { program := "ytkjfccdfmjnkbaa", sum := "def701c8da759f8087858db64180346aef44fc2affde437e7974b8cbdd0c00fc", func := "rota/rotakeep.JoinCovers", spec := "joinCovers", recurses := true, apart := false }
def JoinCoversSaid : Prop := joinCoversRow.holds Try.pinned (OpenSpec.ofChange joinCoversSpec)

/-- ITS FALSE NEIGHBOUR: 'it returns false'. Refute it at one input. -/
def joinCoversWrong : ChangeSpec := { name := "joinCovers", fn := fun _ => fun
  | [d] => { results := [.lit (.bool false)], args := [d] }
  | _ => none }
def JoinCoversWrongFalsely : Prop := joinCoversRow.holds Try.pinned (OpenSpec.ofChange joinCoversWrong)

/-- 'rotakeep.JoinPacks': WHATEVER THE INPUT: true; the input reads as it did. -/
def joinPacksSpec : ChangeSpec := { name := "joinPacks", fn := fun _ => fun
  | [d] => { results := [.lit (.bool true)], args := [d] }
  | _ => none }
def joinPacksRow : OpenClaim := { program := "ytkjfccdfmjnkbaa", sum := "def701c8da759f8087858db64180346aef44fc2affde437e7974b8cbdd0c00fc", func := "rota/rotakeep.JoinPacks", spec := "joinPacks", recurses := true, apart := false }
def JoinPacksSaid : Prop := joinPacksRow.holds Try.pinned (OpenSpec.ofChange joinPacksSpec)

/-- ITS FALSE NEIGHBOUR: 'it returns false'. Refute it at one input. -/
def joinPacksWrong : ChangeSpec := { name := "joinPacks", fn := fun _ => fun
  | [d] => { results := [.lit (.bool false)], args := [d] }
  | _ => none }
def JoinPacksWrongFalsely : Prop := joinPacksRow.holds Try.pinned (OpenSpec.ofChange joinPacksWrong)

/-- 'rotakeep.JoinUnion': WHATEVER THE INPUT: true; the input reads as it did. -/
def joinUnionSpec : ChangeSpec := { name := "joinUnion", fn := fun _ => fun
  | [d1, d2] => { results := [.lit (.bool true)], args := [d1, d2] }
  | _ => none }
def joinUnionRow : OpenClaim := { program := "ytkjfccdfmjnkbaa", sum := "def701c8da759f8087858db64180346aef44fc2affde437e7974b8cbdd0c00fc", func := "rota/rotakeep.JoinUnion", spec := "joinUnion", recurses := true, apart := false }
def JoinUnionSaid : Prop := joinUnionRow.holds Try.pinned (OpenSpec.ofChange joinUnionSpec)

/-- ITS FALSE NEIGHBOUR: 'it returns false'. Refute it at one input. -/
def joinUnionWrong : ChangeSpec := { name := "joinUnion", fn := fun _ => fun
  | [d1, d2] => { results := [.lit (.bool false)], args := [d1, d2] }
  | _ => none }
def JoinUnionWrongFalsely : Prop := joinUnionRow.holds Try.pinned (OpenSpec.ofChange joinUnionWrong)

/-- 'rotakeep.ComplexChari': WHATEVER THE INPUT: true; the input reads as it did. -/
def complexChariSpec : ChangeSpec := { name := "complexChari", fn := fun _ => fun
  | [d] => { results := [.lit (.bool true)], args := [d] }
  | _ => none }
def complexChariRow : OpenClaim := { program := "ytkjfccdfmjnkbaa", sum := "def701c8da759f8087858db64180346aef44fc2affde437e7974b8cbdd0c00fc", func := "rota/rotakeep.ComplexChari", spec := "complexChari", unfollowed := true, recurses := true, apart := false }
def ComplexChariSaid : Prop := complexChariRow.holds Try.pinned (OpenSpec.ofChange complexChariSpec)

/-- ITS FALSE NEIGHBOUR: 'it returns false'. Refute it at one input. -/
def complexChariWrong : ChangeSpec := { name := "complexChari", fn := fun _ => fun
  | [d] => { results := [.lit (.bool false)], args := [d] }
  | _ => none }
def ComplexChariWrongFalsely : Prop := complexChariRow.holds Try.pinned (OpenSpec.ofChange complexChariWrong)

/-- 'rotakeep.MeetEdmonds': WHATEVER THE INPUT: true; the input reads as it did. -/
def meetEdmondsSpec : ChangeSpec := { name := "meetEdmonds", fn := fun _ => fun
  | [d1, d2, d3] => { results := [.lit (.bool true)], args := [d1, d2, d3] }
  | _ => none }
def meetEdmondsRow : OpenClaim := { program := "ytkjfccdfmjnkbaa", sum := "def701c8da759f8087858db64180346aef44fc2affde437e7974b8cbdd0c00fc", func := "rota/rotakeep.MeetEdmonds", spec := "meetEdmonds", unfollowed := true, recurses := true, apart := false }
def MeetEdmondsSaid : Prop := meetEdmondsRow.holds Try.pinned (OpenSpec.ofChange meetEdmondsSpec)

/-- ITS FALSE NEIGHBOUR: 'it returns false'. Refute it at one input. -/
def meetEdmondsWrong : ChangeSpec := { name := "meetEdmonds", fn := fun _ => fun
  | [d1, d2, d3] => { results := [.lit (.bool false)], args := [d1, d2, d3] }
  | _ => none }
def MeetEdmondsWrongFalsely : Prop := meetEdmondsRow.holds Try.pinned (OpenSpec.ofChange meetEdmondsWrong)

/- THE SECOND FORM. 'bulk': how many values and letters a reading holds, each counted each time it is reached (what is shared counts as often as it is met; a slice's spare places count too). A statement '..UptoSaid' is the law's where the arguments, and the package variables that the reading takes, are together of bulk at most 1048576: NARROWER than '..Said'. Prove '..Said' where nothing that the law and all that it calls make is longer than what came in: it says more and counts as full. Else prove '..UptoSaid'. A law counts once. -/
mutual
def uptoBulk {H : Type} : DataW H → Nat
  | .lit (.string bytes) => bytes.length + 1
  | .lit _ => 1
  | .nil => 1
  | .ptr d => uptoBulk d + 1
  | .slice elems spare => uptoBulkAll elems + uptoBulkAll spare + 1
  | .agg parts => uptoBulkAll parts + 1
  | .iface _ d => uptoBulk d + 1
  | .map entries => uptoBulkEntries entries + 1
  | .held _ => 1
def uptoBulkAll {H : Type} : List (DataW H) → Nat
  | [] => 0
  | d :: r => uptoBulk d + uptoBulkAll r
def uptoBulkEntries {H : Type} : List (Lit × DataW H) → Nat
  | [] => 0
  | x :: r => uptoBulkEntry x + uptoBulkEntries r
def uptoBulkEntry {H : Type} : Lit × DataW H → Nat
  | (.string bytes, d) => bytes.length + uptoBulk d + 1
  | (_, d) => uptoBulk d + 1
 end
def uptoSmall : (H : Type) → List (DataW H) → Bool := fun _ ds => decide (uptoBulkAll ds ≤ 1048576)
def OpenSpec.upto (s : _root_.Go.ChangeSpec) : _root_.Go.OpenSpec := { _root_.Go.OpenSpec.ofChange s with cond := some uptoSmall }

/-- 'rotakeep.MeetSame', WHERE WHAT IT READS IS OF BULK AT MOST 1048576: true; the input reads as it did. -/
def meetSameUptoRow : OpenClaim := { program := "ytkjfccdfmjnkbaa", sum := "def701c8da759f8087858db64180346aef44fc2affde437e7974b8cbdd0c00fc", func := "rota/rotakeep.MeetSame", spec := "meetSame", unfollowed := true, recurses := true, apart := false, narrowed := true }
def MeetSameUptoSaid : Prop := meetSameUptoRow.holds Try.pinned (OpenSpec.upto meetSameSpec)

/-- 'rotakeep.MeetUnion', WHERE WHAT IT READS IS OF BULK AT MOST 1048576: true; the input reads as it did. -/
def meetUnionUptoRow : OpenClaim := { program := "ytkjfccdfmjnkbaa", sum := "def701c8da759f8087858db64180346aef44fc2affde437e7974b8cbdd0c00fc", func := "rota/rotakeep.MeetUnion", spec := "meetUnion", unfollowed := true, recurses := true, apart := false, narrowed := true }
def MeetUnionUptoSaid : Prop := meetUnionUptoRow.holds Try.pinned (OpenSpec.upto meetUnionSpec)

/-- 'rotakeep.KindsUniform', WHERE WHAT IT READS IS OF BULK AT MOST 1048576: true; the input reads as it did. -/
def kindsUniformUptoRow : OpenClaim := { program := "ytkjfccdfmjnkbaa", sum := "def701c8da759f8087858db64180346aef44fc2affde437e7974b8cbdd0c00fc", func := "rota/rotakeep.KindsUniform", spec := "kindsUniform", unfollowed := true, recurses := true, apart := false, narrowed := true }
def KindsUniformUptoSaid : Prop := kindsUniformUptoRow.holds Try.pinned (OpenSpec.upto kindsUniformSpec)

/-- 'rotakeep.MinorsFree', WHERE WHAT IT READS IS OF BULK AT MOST 1048576: true; the input reads as it did. -/
def minorsFreeUptoRow : OpenClaim := { program := "ytkjfccdfmjnkbaa", sum := "def701c8da759f8087858db64180346aef44fc2affde437e7974b8cbdd0c00fc", func := "rota/rotakeep.MinorsFree", spec := "minorsFree", unfollowed := true, recurses := true, apart := false, narrowed := true }
def MinorsFreeUptoSaid : Prop := minorsFreeUptoRow.holds Try.pinned (OpenSpec.upto minorsFreeSpec)

/-- 'rotakeep.FlatsModular', WHERE WHAT IT READS IS OF BULK AT MOST 1048576: true; the input reads as it did. -/
def flatsModularUptoRow : OpenClaim := { program := "ytkjfccdfmjnkbaa", sum := "def701c8da759f8087858db64180346aef44fc2affde437e7974b8cbdd0c00fc", func := "rota/rotakeep.FlatsModular", spec := "flatsModular", unfollowed := true, recurses := true, apart := false, narrowed := true }
def FlatsModularUptoSaid : Prop := flatsModularUptoRow.holds Try.pinned (OpenSpec.upto flatsModularSpec)

/-- 'rotakeep.JoinCovers', WHERE WHAT IT READS IS OF BULK AT MOST 1048576: true; the input reads as it did. -/
def joinCoversUptoRow : OpenClaim := { program := "ytkjfccdfmjnkbaa", sum := "def701c8da759f8087858db64180346aef44fc2affde437e7974b8cbdd0c00fc", func := "rota/rotakeep.JoinCovers", spec := "joinCovers", recurses := true, apart := false, narrowed := true }
def JoinCoversUptoSaid : Prop := joinCoversUptoRow.holds Try.pinned (OpenSpec.upto joinCoversSpec)

/-- 'rotakeep.JoinPacks', WHERE WHAT IT READS IS OF BULK AT MOST 1048576: true; the input reads as it did. -/
def joinPacksUptoRow : OpenClaim := { program := "ytkjfccdfmjnkbaa", sum := "def701c8da759f8087858db64180346aef44fc2affde437e7974b8cbdd0c00fc", func := "rota/rotakeep.JoinPacks", spec := "joinPacks", recurses := true, apart := false, narrowed := true }
def JoinPacksUptoSaid : Prop := joinPacksUptoRow.holds Try.pinned (OpenSpec.upto joinPacksSpec)

/-- 'rotakeep.JoinUnion', WHERE WHAT IT READS IS OF BULK AT MOST 1048576: true; the input reads as it did. -/
def joinUnionUptoRow : OpenClaim := { program := "ytkjfccdfmjnkbaa", sum := "def701c8da759f8087858db64180346aef44fc2affde437e7974b8cbdd0c00fc", func := "rota/rotakeep.JoinUnion", spec := "joinUnion", recurses := true, apart := false, narrowed := true }
def JoinUnionUptoSaid : Prop := joinUnionUptoRow.holds Try.pinned (OpenSpec.upto joinUnionSpec)

/-- 'rotakeep.ComplexChari', WHERE WHAT IT READS IS OF BULK AT MOST 1048576: true; the input reads as it did. -/
def complexChariUptoRow : OpenClaim := { program := "ytkjfccdfmjnkbaa", sum := "def701c8da759f8087858db64180346aef44fc2affde437e7974b8cbdd0c00fc", func := "rota/rotakeep.ComplexChari", spec := "complexChari", unfollowed := true, recurses := true, apart := false, narrowed := true }
def ComplexChariUptoSaid : Prop := complexChariUptoRow.holds Try.pinned (OpenSpec.upto complexChariSpec)

/-- 'rotakeep.MeetEdmonds', WHERE WHAT IT READS IS OF BULK AT MOST 1048576: true; the input reads as it did. -/
def meetEdmondsUptoRow : OpenClaim := { program := "ytkjfccdfmjnkbaa", sum := "def701c8da759f8087858db64180346aef44fc2affde437e7974b8cbdd0c00fc", func := "rota/rotakeep.MeetEdmonds", spec := "meetEdmonds", unfollowed := true, recurses := true, apart := false, narrowed := true }
def MeetEdmondsUptoSaid : Prop := meetEdmondsUptoRow.holds Try.pinned (OpenSpec.upto meetEdmondsSpec)

end Rows
end Go.Proofs.Ytkjfccdfmjnkbaa
