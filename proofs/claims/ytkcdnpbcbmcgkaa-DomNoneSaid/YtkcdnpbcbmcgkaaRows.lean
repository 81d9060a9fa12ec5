/-
  No cell of these rows narrows 'for every input' (looked for: loops, veiled, ifaces, maps, wideKeys, modest, calm, conditions, laid).
  DERIVED. THE GIVEN ROWS OF THIS SEAT. 5 by the template 'for every input the law returns true; each argument reads behind the call as it read before'; 0 by the template 'total and deterministic' (their statements: YtkcdnpbcbmcgkaaTotals.lean).
  GIVEN WITH THE SEED: the statements are not yours to turn. If you find one false, say at which input.
  Laid BY PROGRAM, IN A SANDBOX (cutbox-rows.mjs): the forced cells as the released guide's own fill.sh prints them over the translation 894f03bc4d82a73a… (all of the seat's roots in one cut). By AI agents, Wed Nov 11 2026. No macro, syntax, notation, axiom, sorry.
-/
import Derived.Test.YtkcdnpbcbmcgkaaChecked
import GoSem.Claim
import GoSem.ClaimJoined
import GoSem.ClaimMapViews
import Derived.JoinedTies
import Derived.KernelRfl
namespace Go.Proofs.Ytkcdnpbcbmcgkaa
/- THE CELL 'sum', in the pinned program and in every row, IS THE sha256 OF THE DUMP (.gsa) THAT YtkcdnpbcbmcgkaaProg.lean LOADS. Nothing in Lean hashes anything: it is a label: what it is worth is what the hold of that sum in a sandbox is worth. -/
noncomputable def Try.pinned : Pinned := { name := "ytkcdnpbcbmcgkaa", sum := "894f03bc4d82a73a9b08cd67586403eca77d088bee23c332934f54ea192ef9aa", checked := Try.checked }
namespace Rows
def none {H : Type} : Left H := { results := [], args := [] }

/-- 'tabardlaw19.DomMakes': WHATEVER THE INPUT: true; the input reads as it did. -/
def domMakesSpec : ChangeSpec := { name := "domMakes", fn := fun _ => fun
  | [d1, d2] => { results := [.lit (.bool true)], args := [d1, d2] }
  | _ => none }
def domMakesRow : OpenClaim := { program := "ytkcdnpbcbmcgkaa", sum := "894f03bc4d82a73a9b08cd67586403eca77d088bee23c332934f54ea192ef9aa", func := "tabard/tabardlaw19.DomMakes", spec := "domMakes", unfollowed := true, recurses := true, apart := false }
def DomMakesSaid : Prop := domMakesRow.holds Try.pinned (OpenSpec.ofChange domMakesSpec)

/-- ITS FALSE NEIGHBOUR: 'it returns false'. Refute it at one input. -/
def domMakesWrong : ChangeSpec := { name := "domMakes", fn := fun _ => fun
  | [d1, d2] => { results := [.lit (.bool false)], args := [d1, d2] }
  | _ => none }
def DomMakesWrongFalsely : Prop := domMakesRow.holds Try.pinned (OpenSpec.ofChange domMakesWrong)

/-- 'tabardlaw19.DomOrder': WHATEVER THE INPUT: true; the input reads as it did. -/
def domOrderSpec : ChangeSpec := { name := "domOrder", fn := fun _ => fun
  | [d] => { results := [.lit (.bool true)], args := [d] }
  | _ => none }
def domOrderRow : OpenClaim := { program := "ytkcdnpbcbmcgkaa", sum := "894f03bc4d82a73a9b08cd67586403eca77d088bee23c332934f54ea192ef9aa", func := "tabard/tabardlaw19.DomOrder", spec := "domOrder", unfollowed := true, recurses := true, apart := false }
def DomOrderSaid : Prop := domOrderRow.holds Try.pinned (OpenSpec.ofChange domOrderSpec)

/-- ITS FALSE NEIGHBOUR: 'it returns false'. Refute it at one input. -/
def domOrderWrong : ChangeSpec := { name := "domOrder", fn := fun _ => fun
  | [d] => { results := [.lit (.bool false)], args := [d] }
  | _ => none }
def DomOrderWrongFalsely : Prop := domOrderRow.holds Try.pinned (OpenSpec.ofChange domOrderWrong)

/-- 'tabardlaw19.DomCuts': WHATEVER THE INPUT: true; the input reads as it did. -/
def domCutsSpec : ChangeSpec := { name := "domCuts", fn := fun _ => fun
  | [d1, d2, d3] => { results := [.lit (.bool true)], args := [d1, d2, d3] }
  | _ => none }
def domCutsRow : OpenClaim := { program := "ytkcdnpbcbmcgkaa", sum := "894f03bc4d82a73a9b08cd67586403eca77d088bee23c332934f54ea192ef9aa", func := "tabard/tabardlaw19.DomCuts", spec := "domCuts", unfollowed := true, recurses := true, apart := false }
def DomCutsSaid : Prop := domCutsRow.holds Try.pinned (OpenSpec.ofChange domCutsSpec)

/-- ITS FALSE NEIGHBOUR: 'it returns false'. Refute it at one input. -/
def domCutsWrong : ChangeSpec := { name := "domCuts", fn := fun _ => fun
  | [d1, d2, d3] => { results := [.lit (.bool false)], args := [d1, d2, d3] }
  | _ => none }
def DomCutsWrongFalsely : Prop := domCutsRow.holds Try.pinned (OpenSpec.ofChange domCutsWrong)

/-- 'tabardlaw19.DomTree': WHATEVER THE INPUT: true; the input reads as it did. -/
def domTreeSpec : ChangeSpec := { name := "domTree", fn := fun _ => fun
  | [d] => { results := [.lit (.bool true)], args := [d] }
  | _ => none }
def domTreeRow : OpenClaim := { program := "ytkcdnpbcbmcgkaa", sum := "894f03bc4d82a73a9b08cd67586403eca77d088bee23c332934f54ea192ef9aa", func := "tabard/tabardlaw19.DomTree", spec := "domTree", unfollowed := true, recurses := true, apart := false }
def DomTreeSaid : Prop := domTreeRow.holds Try.pinned (OpenSpec.ofChange domTreeSpec)

/-- ITS FALSE NEIGHBOUR: 'it returns false'. Refute it at one input. -/
def domTreeWrong : ChangeSpec := { name := "domTree", fn := fun _ => fun
  | [d] => { results := [.lit (.bool false)], args := [d] }
  | _ => none }
def DomTreeWrongFalsely : Prop := domTreeRow.holds Try.pinned (OpenSpec.ofChange domTreeWrong)

/-- 'tabardlaw19.DomNone': WHATEVER THE INPUT: true; the input reads as it did. -/
def domNoneSpec : ChangeSpec := { name := "domNone", fn := fun _ => fun
  | [d1, d2] => { results := [.lit (.bool true)], args := [d1, d2] }
  | _ => none }
def domNoneRow : OpenClaim := { program := "ytkcdnpbcbmcgkaa", sum := "894f03bc4d82a73a9b08cd67586403eca77d088bee23c332934f54ea192ef9aa", func := "tabard/tabardlaw19.DomNone", spec := "domNone", unfollowed := true, recurses := true, apart := false }
def DomNoneSaid : Prop := domNoneRow.holds Try.pinned (OpenSpec.ofChange domNoneSpec)

/-- ITS FALSE NEIGHBOUR: 'it returns false'. Refute it at one input. -/
def domNoneWrong : ChangeSpec := { name := "domNone", fn := fun _ => fun
  | [d1, d2] => { results := [.lit (.bool false)], args := [d1, d2] }
  | _ => none }
def DomNoneWrongFalsely : Prop := domNoneRow.holds Try.pinned (OpenSpec.ofChange domNoneWrong)

/- THE SECOND FORM. 'bulk': how many values and letters a reading holds, each counted each time it is reached (what is shared counts as often as it is met; a slice's spare places count too). A statement '..UptoSaid' is the law's where the arguments, and the package variables that the reading takes, are together of bulk at most 1048576: NARROWER than '..Said'. Prove '..Said' where nothing that the law and all that it calls make is longer than what came in: it says more and counts as full. Else prove '..UptoSaid'. A law counts once. -/
mutual
def uptoBulk {H : Type} : DataW H → Nat
  | .lit (.string bytes) => bytes.length + 1
  | .lit _ => 1
  | .nil => 1
  | .ptr d => uptoBulk d + 1
  | .slice elems spare => uptoBulkAll elems + uptoBulkAll spare + 1
  | .agg parts => uptoBulkAll parts + 1
  | .iface _ d => uptoBulk d + 1
  | .map entries => uptoBulkEntries entries + 1
  | .held _ => 1
def uptoBulkAll {H : Type} : List (DataW H) → Nat
  | [] => 0
  | d :: r => uptoBulk d + uptoBulkAll r
def uptoBulkEntries {H : Type} : List (Lit × DataW H) → Nat
  | [] => 0
  | x :: r => uptoBulkEntry x + uptoBulkEntries r
def uptoBulkEntry {H : Type} : Lit × DataW H → Nat
  | (.string bytes, d) => bytes.length + uptoBulk d + 1
  | (_, d) => uptoBulk d + 1
 end
def uptoSmall : (H : Type) → List (DataW H) → Bool := fun _ ds => decide (uptoBulkAll ds ≤ 1048576)
def OpenSpec.upto (s : _root_.Go.ChangeSpec) : _root_.Go.OpenSpec := { _root_.Go.OpenSpec.ofChange s with cond := some uptoSmall }

/-- 'tabardlaw19.DomMakes', WHERE WHAT IT READS IS OF BULK AT MOST 1048576: true; the input reads as it did. -/
def domMakesUptoRow : OpenClaim := { program := "ytkcdnpbcbmcgkaa", sum := "894f03bc4d82a73a9b08cd67586403eca77d088bee23c332934f54ea192ef9aa", func := "tabard/tabardlaw19.DomMakes", spec := "domMakes", unfollowed := true, recurses := true, apart := false, narrowed := true }
def DomMakesUptoSaid : Prop := domMakesUptoRow.holds Try.pinned (OpenSpec.upto domMakesSpec)

/-- 'tabardlaw19.DomOrder', WHERE WHAT IT READS IS OF BULK AT MOST 1048576: true; the input reads as it did. -/
def domOrderUptoRow : OpenClaim := { program := "ytkcdnpbcbmcgkaa", sum := "894f03bc4d82a73a9b08cd67586403eca77d088bee23c332934f54ea192ef9aa", func := "tabard/tabardlaw19.DomOrder", spec := "domOrder", unfollowed := true, recurses := true, apart := false, narrowed := true }
def DomOrderUptoSaid : Prop := domOrderUptoRow.holds Try.pinned (OpenSpec.upto domOrderSpec)

/-- 'tabardlaw19.DomCuts', WHERE WHAT IT READS IS OF BULK AT MOST 1048576: true; the input reads as it did. -/
def domCutsUptoRow : OpenClaim := { program := "ytkcdnpbcbmcgkaa", sum := "894f03bc4d82a73a9b08cd67586403eca77d088bee23c332934f54ea192ef9aa", func := "tabard/tabardlaw19.DomCuts", spec := "domCuts", unfollowed := true, recurses := true, apart := false, narrowed := true }
def DomCutsUptoSaid : Prop := domCutsUptoRow.holds Try.pinned (OpenSpec.upto domCutsSpec)

/-- 'tabardlaw19.DomTree', WHERE WHAT IT READS IS OF BULK AT MOST 1048576: true; the input reads as it did. -/
def domTreeUptoRow : OpenClaim := { program := "ytkcdnpbcbmcgkaa", sum := "894f03bc4d82a73a9b08cd67586403eca77d088bee23c332934f54ea192ef9aa", func := "tabard/tabardlaw19.DomTree", spec := "domTree", unfollowed := true, recurses := true, apart := false, narrowed := true }
def DomTreeUptoSaid : Prop := domTreeUptoRow.holds Try.pinned (OpenSpec.upto domTreeSpec)

/-- 'tabardlaw19.DomNone', WHERE WHAT IT READS IS OF BULK AT MOST 1048576: true; the input reads as it did. -/
def domNoneUptoRow : OpenClaim := { program := "ytkcdnpbcbmcgkaa", sum := "894f03bc4d82a73a9b08cd67586403eca77d088bee23c332934f54ea192ef9aa", func := "tabard/tabardlaw19.DomNone", spec := "domNone", unfollowed := true, recurses := true, apart := false, narrowed := true }
def DomNoneUptoSaid : Prop := domNoneUptoRow.holds Try.pinned (OpenSpec.upto domNoneSpec)

end Rows
end Go.Proofs.Ytkcdnpbcbmcgkaa
