/-
  No cell of these rows narrows 'for every input' (looked for: loops, veiled, ifaces, maps, wideKeys, modest, calm, conditions, laid).
  DERIVED. THE GIVEN ROWS OF THIS SEAT. 3 by the template 'for every input the law returns true; each argument reads behind the call as it read before'; 0 by the template 'total and deterministic' (their statements: YtlkjbijklgdocaaTotals.lean).
  GIVEN WITH THE SEED: the statements are not yours to turn. If you find one false, say at which input.
  Laid BY PROGRAM, IN A SANDBOX (cutbox-rows.mjs): the forced cells as the released guide's own fill.sh prints them over the translation 0a2de7a1f60055d1… (all of the seat's roots in one cut). By AI agents, Wed Nov 11 2026. No macro, syntax, notation, axiom, sorry.
-/
import Derived.Test.YtlkjbijklgdocaaChecked
import GoSem.Claim
import GoSem.ClaimJoined
import GoSem.ClaimMapViews
import Derived.JoinedTies
import Derived.KernelRfl
namespace Go.Proofs.Ytlkjbijklgdocaa
/- THE CELL 'sum', in the pinned program and in every row, IS THE sha256 OF THE DUMP (.gsa) THAT YtlkjbijklgdocaaProg.lean LOADS. Nothing in Lean hashes anything: it is a label: what it is worth is what the hold of that sum in a sandbox is worth. -/
noncomputable def Try.pinned : Pinned := { name := "ytlkjbijklgdocaa", sum := "0a2de7a1f60055d1c3d850ee9cac6af9e3b9079be5493d3a765c349df983dd13", checked := Try.checked }
namespace Rows
def none {H : Type} : Left H := { results := [], args := [] }

/-- 'tabardlaw10.CfgAll': WHATEVER THE INPUT: true; the input reads as it did. -/
def cfgAllSpec : ChangeSpec := { name := "cfgAll", fn := fun _ => fun
  | [d] => { results := [.lit (.bool true)], args := [d] }
  | _ => none }
def cfgAllRow : OpenClaim := { program := "ytlkjbijklgdocaa", sum := "0a2de7a1f60055d1c3d850ee9cac6af9e3b9079be5493d3a765c349df983dd13", func := "tabard/tabardlaw10.CfgAll", spec := "cfgAll", unfollowed := true, recurses := true, plainKeys := false, apart := false }
def CfgAllSaid : Prop := cfgAllRow.holds Try.pinned (OpenSpec.ofChange cfgAllSpec)

/-- ITS FALSE NEIGHBOUR: 'it returns false'. Refute it at one input. -/
def cfgAllWrong : ChangeSpec := { name := "cfgAll", fn := fun _ => fun
  | [d] => { results := [.lit (.bool false)], args := [d] }
  | _ => none }
def CfgAllWrongFalsely : Prop := cfgAllRow.holds Try.pinned (OpenSpec.ofChange cfgAllWrong)

/-- 'tabardlaw10.CfgForward': WHATEVER THE INPUT: true; the input reads as it did. -/
def cfgForwardSpec : ChangeSpec := { name := "cfgForward", fn := fun _ => fun
  | [d] => { results := [.lit (.bool true)], args := [d] }
  | _ => none }
def cfgForwardRow : OpenClaim := { program := "ytlkjbijklgdocaa", sum := "0a2de7a1f60055d1c3d850ee9cac6af9e3b9079be5493d3a765c349df983dd13", func := "tabard/tabardlaw10.CfgForward", spec := "cfgForward", unfollowed := true, recurses := true, plainKeys := false, apart := false }
def CfgForwardSaid : Prop := cfgForwardRow.holds Try.pinned (OpenSpec.ofChange cfgForwardSpec)

/-- ITS FALSE NEIGHBOUR: 'it returns false'. Refute it at one input. -/
def cfgForwardWrong : ChangeSpec := { name := "cfgForward", fn := fun _ => fun
  | [d] => { results := [.lit (.bool false)], args := [d] }
  | _ => none }
def CfgForwardWrongFalsely : Prop := cfgForwardRow.holds Try.pinned (OpenSpec.ofChange cfgForwardWrong)

/-- 'tabardlaw10.CfgNone': WHATEVER THE INPUT: true; the input reads as it did. -/
def cfgNoneSpec : ChangeSpec := { name := "cfgNone", fn := fun _ => fun
  | [d] => { results := [.lit (.bool true)], args := [d] }
  | _ => none }
def cfgNoneRow : OpenClaim := { program := "ytlkjbijklgdocaa", sum := "0a2de7a1f60055d1c3d850ee9cac6af9e3b9079be5493d3a765c349df983dd13", func := "tabard/tabardlaw10.CfgNone", spec := "cfgNone", unfollowed := true, recurses := true, plainKeys := false, apart := false }
def CfgNoneSaid : Prop := cfgNoneRow.holds Try.pinned (OpenSpec.ofChange cfgNoneSpec)

/-- ITS FALSE NEIGHBOUR: 'it returns false'. Refute it at one input. -/
def cfgNoneWrong : ChangeSpec := { name := "cfgNone", fn := fun _ => fun
  | [d] => { results := [.lit (.bool false)], args := [d] }
  | _ => none }
def CfgNoneWrongFalsely : Prop := cfgNoneRow.holds Try.pinned (OpenSpec.ofChange cfgNoneWrong)

/- THE SECOND FORM. 'bulk': how many values and letters a reading holds, each counted each time it is reached (what is shared counts as often as it is met; a slice's spare places count too). A statement '..UptoSaid' is the law's where the arguments, and the package variables that the reading takes, are together of bulk at most 1048576: NARROWER than '..Said'. Prove '..Said' where nothing that the law and all that it calls make is longer than what came in: it says more and counts as full. Else prove '..UptoSaid'. A law counts once. -/
mutual
def uptoBulk {H : Type} : DataW H → Nat
  | .lit (.string bytes) => bytes.length + 1
  | .lit _ => 1
  | .nil => 1
  | .ptr d => uptoBulk d + 1
  | .slice elems spare => uptoBulkAll elems + uptoBulkAll spare + 1
  | .agg parts => uptoBulkAll parts + 1
  | .iface _ d => uptoBulk d + 1
  | .map entries => uptoBulkEntries entries + 1
  | .held _ => 1
def uptoBulkAll {H : Type} : List (DataW H) → Nat
  | [] => 0
  | d :: r => uptoBulk d + uptoBulkAll r
def uptoBulkEntries {H : Type} : List (Lit × DataW H) → Nat
  | [] => 0
  | x :: r => uptoBulkEntry x + uptoBulkEntries r
def uptoBulkEntry {H : Type} : Lit × DataW H → Nat
  | (.string bytes, d) => bytes.length + uptoBulk d + 1
  | (_, d) => uptoBulk d + 1
 end
def uptoSmall : (H : Type) → List (DataW H) → Bool := fun _ ds => decide (uptoBulkAll ds ≤ 1048576)
def OpenSpec.upto (s : _root_.Go.ChangeSpec) : _root_.Go.OpenSpec := { _root_.Go.OpenSpec.ofChange s with cond := some uptoSmall }

/-- 'tabardlaw10.CfgAll', WHERE WHAT IT READS IS OF BULK AT MOST 1048576: true; the input reads as it did. -/
def cfgAllUptoRow : OpenClaim := { program := "ytlkjbijklgdocaa", sum := "0a2de7a1f60055d1c3d850ee9cac6af9e3b9079be5493d3a765c349df983dd13", func := "tabard/tabardlaw10.CfgAll", spec := "cfgAll", unfollowed := true, recurses := true, plainKeys := false, apart := false, narrowed := true }
def CfgAllUptoSaid : Prop := cfgAllUptoRow.holds Try.pinned (OpenSpec.upto cfgAllSpec)

/-- 'tabardlaw10.CfgForward', WHERE WHAT IT READS IS OF BULK AT MOST 1048576: true; the input reads as it did. -/
def cfgForwardUptoRow : OpenClaim := { program := "ytlkjbijklgdocaa", sum := "0a2de7a1f60055d1c3d850ee9cac6af9e3b9079be5493d3a765c349df983dd13", func := "tabard/tabardlaw10.CfgForward", spec := "cfgForward", unfollowed := true, recurses := true, plainKeys := false, apart := false, narrowed := true }
def CfgForwardUptoSaid : Prop := cfgForwardUptoRow.holds Try.pinned (OpenSpec.upto cfgForwardSpec)

/-- 'tabardlaw10.CfgNone', WHERE WHAT IT READS IS OF BULK AT MOST 1048576: true; the input reads as it did. -/
def cfgNoneUptoRow : OpenClaim := { program := "ytlkjbijklgdocaa", sum := "0a2de7a1f60055d1c3d850ee9cac6af9e3b9079be5493d3a765c349df983dd13", func := "tabard/tabardlaw10.CfgNone", spec := "cfgNone", unfollowed := true, recurses := true, plainKeys := false, apart := false, narrowed := true }
def CfgNoneUptoSaid : Prop := cfgNoneUptoRow.holds Try.pinned (OpenSpec.upto cfgNoneSpec)

end Rows
end Go.Proofs.Ytlkjbijklgdocaa
