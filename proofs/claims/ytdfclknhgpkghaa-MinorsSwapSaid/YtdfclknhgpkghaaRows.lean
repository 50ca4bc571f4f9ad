/-
  No cell of these rows narrows 'for every input' (looked for: loops, veiled, ifaces, maps, wideKeys, modest, calm, conditions, laid).
  DERIVED. THE GIVEN ROWS OF THIS SEAT. 10 by the template 'for every input the law returns true; each argument reads behind the call as it read before'; 0 by the template 'total and deterministic' (their statements: YtdfclknhgpkghaaTotals.lean).
  GIVEN WITH THE SEED: the statements are not yours to turn. If you find one false, say at which input.
  Laid BY PROGRAM, IN A SANDBOX (cutbox-rows.mjs): the forced cells as the released guide's own fill.sh prints them over the translation 3f2b47266efd74b9… (all of the seat's roots in one cut). By AI agents, Wed Nov 11 2026. No macro, syntax, notation, axiom, sorry.
-/
import Derived.Test.YtdfclknhgpkghaaChecked
import GoSem.Claim
import GoSem.ClaimJoined
import GoSem.ClaimMapViews
import Derived.JoinedTies
import Derived.KernelRfl
namespace Go.Proofs.Ytdfclknhgpkghaa
/- THE CELL 'sum', in the pinned program and in every row, IS THE sha256 OF THE DUMP (.gsa) THAT YtdfclknhgpkghaaProg.lean LOADS. Nothing in Lean hashes anything: it is a label: what it is worth is what the hold of that sum in a sandbox is worth. -/
noncomputable def Try.pinned : Pinned := { name := "ytdfclknhgpkghaa", sum := "3f2b47266efd74b9cc0efda3a17b9792ab2a3cedc0ebc44bb65a4acc9d2ffffd", checked := Try.checked }
namespace Rows
def none {H : Type} : Left H := { results := [], args := [] }

/-- 'rotakeep.ValuesPluecker': WHATEVER THE INPUT: true; the input reads as it did. -/
def valuesPlueckerSpec : ChangeSpec := { name := "valuesPluecker", fn := fun _ => fun
  | [d1, d2] => { results := [.lit (.bool true)], args := [d1, d2] }
  | _ => none }
def valuesPlueckerRow : OpenClaim := { program := "ytdfclknhgpkghaa", sum := "3f2b47266efd74b9cc0efda3a17b9792ab2a3cedc0ebc44bb65a4acc9d2ffffd", func := "rota/rotakeep.ValuesPluecker", spec := "valuesPluecker", unfollowed := true, recurses := true, apart := false }
def ValuesPlueckerSaid : Prop := valuesPlueckerRow.holds Try.pinned (OpenSpec.ofChange valuesPlueckerSpec)

/-- ITS FALSE NEIGHBOUR: 'it returns false'. Refute it at one input. -/
def valuesPlueckerWrong : ChangeSpec := { name := "valuesPluecker", fn := fun _ => fun
  | [d1, d2] => { results := [.lit (.bool false)], args := [d1, d2] }
  | _ => none }
def ValuesPlueckerWrongFalsely : Prop := valuesPlueckerRow.holds Try.pinned (OpenSpec.ofChange valuesPlueckerWrong)

/-- 'rotakeep.FlatsMobius': WHATEVER THE INPUT: true; the input reads as it did. -/
def flatsMobiusSpec : ChangeSpec := { name := "flatsMobius", fn := fun _ => fun
  | [d1, d2] => { results := [.lit (.bool true)], args := [d1, d2] }
  | _ => none }
def flatsMobiusRow : OpenClaim := { program := "ytdfclknhgpkghaa", sum := "3f2b47266efd74b9cc0efda3a17b9792ab2a3cedc0ebc44bb65a4acc9d2ffffd", func := "rota/rotakeep.FlatsMobius", spec := "flatsMobius", unfollowed := true, recurses := true, apart := false }
def FlatsMobiusSaid : Prop := flatsMobiusRow.holds Try.pinned (OpenSpec.ofChange flatsMobiusSpec)

/-- ITS FALSE NEIGHBOUR: 'it returns false'. Refute it at one input. -/
def flatsMobiusWrong : ChangeSpec := { name := "flatsMobius", fn := fun _ => fun
  | [d1, d2] => { results := [.lit (.bool false)], args := [d1, d2] }
  | _ => none }
def FlatsMobiusWrongFalsely : Prop := flatsMobiusRow.holds Try.pinned (OpenSpec.ofChange flatsMobiusWrong)

/-- 'rotakeep.SubConvex': WHATEVER THE INPUT: true; the input reads as it did. -/
def subConvexSpec : ChangeSpec := { name := "subConvex", fn := fun _ => fun
  | [d1, d2, d3, d4, d5] => { results := [.lit (.bool true)], args := [d1, d2, d3, d4, d5] }
  | _ => none }
def subConvexRow : OpenClaim := { program := "ytdfclknhgpkghaa", sum := "3f2b47266efd74b9cc0efda3a17b9792ab2a3cedc0ebc44bb65a4acc9d2ffffd", func := "rota/rotakeep.SubConvex", spec := "subConvex", unfollowed := true, recurses := true, apart := false }
def SubConvexSaid : Prop := subConvexRow.holds Try.pinned (OpenSpec.ofChange subConvexSpec)

/-- ITS FALSE NEIGHBOUR: 'it returns false'. Refute it at one input. -/
def subConvexWrong : ChangeSpec := { name := "subConvex", fn := fun _ => fun
  | [d1, d2, d3, d4, d5] => { results := [.lit (.bool false)], args := [d1, d2, d3, d4, d5] }
  | _ => none }
def SubConvexWrongFalsely : Prop := subConvexRow.holds Try.pinned (OpenSpec.ofChange subConvexWrong)

/-- 'rotakeep.SubEdmonds': WHATEVER THE INPUT: true; the input reads as it did. -/
def subEdmondsSpec : ChangeSpec := { name := "subEdmonds", fn := fun _ => fun
  | [d1, d2, d3, d4, d5] => { results := [.lit (.bool true)], args := [d1, d2, d3, d4, d5] }
  | _ => none }
def subEdmondsRow : OpenClaim := { program := "ytdfclknhgpkghaa", sum := "3f2b47266efd74b9cc0efda3a17b9792ab2a3cedc0ebc44bb65a4acc9d2ffffd", func := "rota/rotakeep.SubEdmonds", spec := "subEdmonds", unfollowed := true, recurses := true, apart := false }
def SubEdmondsSaid : Prop := subEdmondsRow.holds Try.pinned (OpenSpec.ofChange subEdmondsSpec)

/-- ITS FALSE NEIGHBOUR: 'it returns false'. Refute it at one input. -/
def subEdmondsWrong : ChangeSpec := { name := "subEdmonds", fn := fun _ => fun
  | [d1, d2, d3, d4, d5] => { results := [.lit (.bool false)], args := [d1, d2, d3, d4, d5] }
  | _ => none }
def SubEdmondsWrongFalsely : Prop := subEdmondsRow.holds Try.pinned (OpenSpec.ofChange subEdmondsWrong)

/-- 'rotakeep.SubLeasts': WHATEVER THE INPUT: true; the input reads as it did. -/
def subLeastsSpec : ChangeSpec := { name := "subLeasts", fn := fun _ => fun
  | [d1, d2, d3, d4] => { results := [.lit (.bool true)], args := [d1, d2, d3, d4] }
  | _ => none }
def subLeastsRow : OpenClaim := { program := "ytdfclknhgpkghaa", sum := "3f2b47266efd74b9cc0efda3a17b9792ab2a3cedc0ebc44bb65a4acc9d2ffffd", func := "rota/rotakeep.SubLeasts", spec := "subLeasts", apart := false }
def SubLeastsSaid : Prop := subLeastsRow.holds Try.pinned (OpenSpec.ofChange subLeastsSpec)

/-- ITS FALSE NEIGHBOUR: 'it returns false'. Refute it at one input. -/
def subLeastsWrong : ChangeSpec := { name := "subLeasts", fn := fun _ => fun
  | [d1, d2, d3, d4] => { results := [.lit (.bool false)], args := [d1, d2, d3, d4] }
  | _ => none }
def SubLeastsWrongFalsely : Prop := subLeastsRow.holds Try.pinned (OpenSpec.ofChange subLeastsWrong)

/-- 'rotakeep.AxiomsBack': WHATEVER THE INPUT: true; the input reads as it did. -/
def axiomsBackSpec : ChangeSpec := { name := "axiomsBack", fn := fun _ => fun
  | [d] => { results := [.lit (.bool true)], args := [d] }
  | _ => none }
def axiomsBackRow : OpenClaim := { program := "ytdfclknhgpkghaa", sum := "3f2b47266efd74b9cc0efda3a17b9792ab2a3cedc0ebc44bb65a4acc9d2ffffd", func := "rota/rotakeep.AxiomsBack", spec := "axiomsBack", unfollowed := true, recurses := true, apart := false }
def AxiomsBackSaid : Prop := axiomsBackRow.holds Try.pinned (OpenSpec.ofChange axiomsBackSpec)

/-- ITS FALSE NEIGHBOUR: 'it returns false'. Refute it at one input. -/
def axiomsBackWrong : ChangeSpec := { name := "axiomsBack", fn := fun _ => fun
  | [d] => { results := [.lit (.bool false)], args := [d] }
  | _ => none }
def AxiomsBackWrongFalsely : Prop := axiomsBackRow.holds Try.pinned (OpenSpec.ofChange axiomsBackWrong)

/-- 'rotakeep.GreedyBest': WHATEVER THE INPUT: true; the input reads as it did. -/
def greedyBestSpec : ChangeSpec := { name := "greedyBest", fn := fun _ => fun
  | [d1, d2, d3] => { results := [.lit (.bool true)], args := [d1, d2, d3] }
  | _ => none }
def greedyBestRow : OpenClaim := { program := "ytdfclknhgpkghaa", sum := "3f2b47266efd74b9cc0efda3a17b9792ab2a3cedc0ebc44bb65a4acc9d2ffffd", func := "rota/rotakeep.GreedyBest", spec := "greedyBest", unfollowed := true, recurses := true, apart := false }
def GreedyBestSaid : Prop := greedyBestRow.holds Try.pinned (OpenSpec.ofChange greedyBestSpec)

/-- ITS FALSE NEIGHBOUR: 'it returns false'. Refute it at one input. -/
def greedyBestWrong : ChangeSpec := { name := "greedyBest", fn := fun _ => fun
  | [d1, d2, d3] => { results := [.lit (.bool false)], args := [d1, d2, d3] }
  | _ => none }
def GreedyBestWrongFalsely : Prop := greedyBestRow.holds Try.pinned (OpenSpec.ofChange greedyBestWrong)

/-- 'rotakeep.SetsBlock': WHATEVER THE INPUT: true; the input reads as it did. -/
def setsBlockSpec : ChangeSpec := { name := "setsBlock", fn := fun _ => fun
  | [d1, d2] => { results := [.lit (.bool true)], args := [d1, d2] }
  | _ => none }
def setsBlockRow : OpenClaim := { program := "ytdfclknhgpkghaa", sum := "3f2b47266efd74b9cc0efda3a17b9792ab2a3cedc0ebc44bb65a4acc9d2ffffd", func := "rota/rotakeep.SetsBlock", spec := "setsBlock", unfollowed := true, recurses := true, apart := false }
def SetsBlockSaid : Prop := setsBlockRow.holds Try.pinned (OpenSpec.ofChange setsBlockSpec)

/-- ITS FALSE NEIGHBOUR: 'it returns false'. Refute it at one input. -/
def setsBlockWrong : ChangeSpec := { name := "setsBlock", fn := fun _ => fun
  | [d1, d2] => { results := [.lit (.bool false)], args := [d1, d2] }
  | _ => none }
def SetsBlockWrongFalsely : Prop := setsBlockRow.holds Try.pinned (OpenSpec.ofChange setsBlockWrong)

/-- 'rotakeep.MinorsSwap': WHATEVER THE INPUT: true; the input reads as it did. -/
def minorsSwapSpec : ChangeSpec := { name := "minorsSwap", fn := fun _ => fun
  | [d1, d2, d3] => { results := [.lit (.bool true)], args := [d1, d2, d3] }
  | _ => none }
def minorsSwapRow : OpenClaim := { program := "ytdfclknhgpkghaa", sum := "3f2b47266efd74b9cc0efda3a17b9792ab2a3cedc0ebc44bb65a4acc9d2ffffd", func := "rota/rotakeep.MinorsSwap", spec := "minorsSwap", recurses := true, apart := false }
def MinorsSwapSaid : Prop := minorsSwapRow.holds Try.pinned (OpenSpec.ofChange minorsSwapSpec)

/-- ITS FALSE NEIGHBOUR: 'it returns false'. Refute it at one input. -/
def minorsSwapWrong : ChangeSpec := { name := "minorsSwap", fn := fun _ => fun
  | [d1, d2, d3] => { results := [.lit (.bool false)], args := [d1, d2, d3] }
  | _ => none }
def MinorsSwapWrongFalsely : Prop := minorsSwapRow.holds Try.pinned (OpenSpec.ofChange minorsSwapWrong)

/-- 'rotakeep.MinorsDual': WHATEVER THE INPUT: true; the input reads as it did. -/
def minorsDualSpec : ChangeSpec := { name := "minorsDual", fn := fun _ => fun
  | [d1, d2] => { results := [.lit (.bool true)], args := [d1, d2] }
  | _ => none }
def minorsDualRow : OpenClaim := { program := "ytdfclknhgpkghaa", sum := "3f2b47266efd74b9cc0efda3a17b9792ab2a3cedc0ebc44bb65a4acc9d2ffffd", func := "rota/rotakeep.MinorsDual", spec := "minorsDual", unfollowed := true, recurses := true, apart := false }
def MinorsDualSaid : Prop := minorsDualRow.holds Try.pinned (OpenSpec.ofChange minorsDualSpec)

/-- ITS FALSE NEIGHBOUR: 'it returns false'. Refute it at one input. -/
def minorsDualWrong : ChangeSpec := { name := "minorsDual", fn := fun _ => fun
  | [d1, d2] => { results := [.lit (.bool false)], args := [d1, d2] }
  | _ => none }
def MinorsDualWrongFalsely : Prop := minorsDualRow.holds Try.pinned (OpenSpec.ofChange minorsDualWrong)

/- THE SECOND FORM. 'bulk': how many values and letters a reading holds, each counted each time it is reached (what is shared counts as often as it is met; a slice's spare places count too). A statement '..UptoSaid' is the law's where the arguments, and the package variables that the reading takes, are together of bulk at most 1048576: NARROWER than '..Said'. Prove '..Said' where nothing that the law and all that it calls make is longer than what came in: it says more and counts as full. Else prove '..UptoSaid'. A law counts once. -/
mutual
def uptoBulk {H : Type} : DataW H → Nat
  | .lit (.string bytes) => bytes.length + 1
  | .lit _ => 1
  | .nil => 1
  | .ptr d => uptoBulk d + 1
  | .slice elems spare => uptoBulkAll elems + uptoBulkAll spare + 1
  | .agg parts => uptoBulkAll parts + 1
  | .iface _ d => uptoBulk d + 1
  | .map entries => uptoBulkEntries entries + 1
  | .held _ => 1
def uptoBulkAll {H : Type} : List (DataW H) → Nat
  | [] => 0
  | d :: r => uptoBulk d + uptoBulkAll r
def uptoBulkEntries {H : Type} : List (Lit × DataW H) → Nat
  | [] => 0
  | x :: r => uptoBulkEntry x + uptoBulkEntries r
def uptoBulkEntry {H : Type} : Lit × DataW H → Nat
  | (.string bytes, d) => bytes.length + uptoBulk d + 1
  | (_, d) => uptoBulk d + 1
 end
def uptoSmall : (H : Type) → List (DataW H) → Bool := fun _ ds => decide (uptoBulkAll ds ≤ 1048576)
def OpenSpec.upto (s : _root_.Go.ChangeSpec) : _root_.Go.OpenSpec := { _root_.Go.OpenSpec.ofChange s with cond := some uptoSmall }

/-- 'rotakeep.ValuesPluecker', WHERE WHAT IT READS IS OF BULK AT MOST 1048576: true; the input reads as it did. -/
def valuesPlueckerUptoRow : OpenClaim := { program := "ytdfclknhgpkghaa", sum := "3f2b47266efd74b9cc0efda3a17b9792ab2a3cedc0ebc44bb65a4acc9d2ffffd", func := "rota/rotakeep.ValuesPluecker", spec := "valuesPluecker", unfollowed := true, recurses := true, apart := false, narrowed := true }
def ValuesPlueckerUptoSaid : Prop := valuesPlueckerUptoRow.holds Try.pinned (OpenSpec.upto valuesPlueckerSpec)

/-- 'rotakeep.FlatsMobius', WHERE WHAT IT READS IS OF BULK AT MOST 1048576: true; the input reads as it did. -/
def flatsMobiusUptoRow : OpenClaim := { program := "ytdfclknhgpkghaa", sum := "3f2b47266efd74b9cc0efda3a17b9792ab2a3cedc0ebc44bb65a4acc9d2ffffd", func := "rota/rotakeep.FlatsMobius", spec := "flatsMobius", unfollowed := true, recurses := true, apart := false, narrowed := true }
def FlatsMobiusUptoSaid : Prop := flatsMobiusUptoRow.holds Try.pinned (OpenSpec.upto flatsMobiusSpec)

/-- 'rotakeep.SubConvex', WHERE WHAT IT READS IS OF BULK AT MOST 1048576: true; the input reads as it did. -/
def subConvexUptoRow : OpenClaim := { program := "ytdfclknhgpkghaa", sum := "3f2b47266efd74b9cc0efda3a17b9792ab2a3cedc0ebc44bb65a4acc9d2ffffd", func := "rota/rotakeep.SubConvex", spec := "subConvex", unfollowed := true, recurses := true, apart := false, narrowed := true }
def SubConvexUptoSaid : Prop := subConvexUptoRow.holds Try.pinned (OpenSpec.upto subConvexSpec)

/-- 'rotakeep.SubEdmonds', WHERE WHAT IT READS IS OF BULK AT MOST 1048576: true; the input reads as it did. -/
def subEdmondsUptoRow : OpenClaim := { program := "ytdfclknhgpkghaa", sum := "3f2b47266efd74b9cc0efda3a17b9792ab2a3cedc0ebc44bb65a4acc9d2ffffd", func := "rota/rotakeep.SubEdmonds", spec := "subEdmonds", unfollowed := true, recurses := true, apart := false, narrowed := true }
def SubEdmondsUptoSaid : Prop := subEdmondsUptoRow.holds Try.pinned (OpenSpec.upto subEdmondsSpec)

/-- 'rotakeep.SubLeasts', WHERE WHAT IT READS IS OF BULK AT MOST 1048576: true; the input reads as it did. -/
def subLeastsUptoRow : OpenClaim := { program := "ytdfclknhgpkghaa", sum := "3f2b47266efd74b9cc0efda3a17b9792ab2a3cedc0ebc44bb65a4acc9d2ffffd", func := "rota/rotakeep.SubLeasts", spec := "subLeasts", apart := false, narrowed := true }
def SubLeastsUptoSaid : Prop := subLeastsUptoRow.holds Try.pinned (OpenSpec.upto subLeastsSpec)

/-- 'rotakeep.AxiomsBack', WHERE WHAT IT READS IS OF BULK AT MOST 1048576: true; the input reads as it did. -/
def axiomsBackUptoRow : OpenClaim := { program := "ytdfclknhgpkghaa", sum := "3f2b47266efd74b9cc0efda3a17b9792ab2a3cedc0ebc44bb65a4acc9d2ffffd", func := "rota/rotakeep.AxiomsBack", spec := "axiomsBack", unfollowed := true, recurses := true, apart := false, narrowed := true }
def AxiomsBackUptoSaid : Prop := axiomsBackUptoRow.holds Try.pinned (OpenSpec.upto axiomsBackSpec)

/-- 'rotakeep.GreedyBest', WHERE WHAT IT READS IS OF BULK AT MOST 1048576: true; the input reads as it did. -/
def greedyBestUptoRow : OpenClaim := { program := "ytdfclknhgpkghaa", sum := "3f2b47266efd74b9cc0efda3a17b9792ab2a3cedc0ebc44bb65a4acc9d2ffffd", func := "rota/rotakeep.GreedyBest", spec := "greedyBest", unfollowed := true, recurses := true, apart := false, narrowed := true }
def GreedyBestUptoSaid : Prop := greedyBestUptoRow.holds Try.pinned (OpenSpec.upto greedyBestSpec)

/-- 'rotakeep.SetsBlock', WHERE WHAT IT READS IS OF BULK AT MOST 1048576: true; the input reads as it did. -/
def setsBlockUptoRow : OpenClaim := { program := "ytdfclknhgpkghaa", sum := "3f2b47266efd74b9cc0efda3a17b9792ab2a3cedc0ebc44bb65a4acc9d2ffffd", func := "rota/rotakeep.SetsBlock", spec := "setsBlock", unfollowed := true, recurses := true, apart := false, narrowed := true }
def SetsBlockUptoSaid : Prop := setsBlockUptoRow.holds Try.pinned (OpenSpec.upto setsBlockSpec)

/-- 'rotakeep.MinorsSwap', WHERE WHAT IT READS IS OF BULK AT MOST 1048576: true; the input reads as it did. -/
def minorsSwapUptoRow : OpenClaim := { program := "ytdfclknhgpkghaa", sum := "3f2b47266efd74b9cc0efda3a17b9792ab2a3cedc0ebc44bb65a4acc9d2ffffd", func := "rota/rotakeep.MinorsSwap", spec := "minorsSwap", recurses := true, apart := false, narrowed := true }
def MinorsSwapUptoSaid : Prop := minorsSwapUptoRow.holds Try.pinned (OpenSpec.upto minorsSwapSpec)

/-- 'rotakeep.MinorsDual', WHERE WHAT IT READS IS OF BULK AT MOST 1048576: true; the input reads as it did. -/
def minorsDualUptoRow : OpenClaim := { program := "ytdfclknhgpkghaa", sum := "3f2b47266efd74b9cc0efda3a17b9792ab2a3cedc0ebc44bb65a4acc9d2ffffd", func := "rota/rotakeep.MinorsDual", spec := "minorsDual", unfollowed := true, recurses := true, apart := false, narrowed := true }
def MinorsDualUptoSaid : Prop := minorsDualUptoRow.holds Try.pinned (OpenSpec.upto minorsDualSpec)

end Rows
end Go.Proofs.Ytdfclknhgpkghaa
