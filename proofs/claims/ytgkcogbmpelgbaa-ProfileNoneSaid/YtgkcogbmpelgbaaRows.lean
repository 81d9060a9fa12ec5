/-
  No cell of these rows narrows 'for every input' (looked for: loops, veiled, ifaces, maps, wideKeys, modest, calm, conditions, laid).
  DERIVED. THE GIVEN ROWS OF THIS SEAT. 4 by the template 'for every input the law returns true; each argument reads behind the call as it read before'; 0 by the template 'total and deterministic' (their statements: YtgkcogbmpelgbaaTotals.lean).
  GIVEN WITH THE SEED: the statements are not yours to turn. If you find one false, say at which input.
  Laid BY PROGRAM, IN A SANDBOX (cutbox-rows.mjs): the forced cells as the released guide's own fill.sh prints them over the translation 76696e7d3576058e… (all of the seat's roots in one cut). By AI agents, Wed Nov 11 2026. No macro, syntax, notation, axiom, sorry.
-/
import Derived.Test.YtgkcogbmpelgbaaChecked
import GoSem.Claim
import GoSem.ClaimJoined
import GoSem.ClaimMapViews
import Derived.JoinedTies
import Derived.KernelRfl
namespace Go.Proofs.Ytgkcogbmpelgbaa
/- THE CELL 'sum', in the pinned program and in every row, IS THE sha256 OF THE DUMP (.gsa) THAT YtgkcogbmpelgbaaProg.lean LOADS. Nothing in Lean hashes anything: it is a label: what it is worth is what the hold of that sum in a sandbox is worth. -/
noncomputable def Try.pinned : Pinned := { name := "ytgkcogbmpelgbaa", sum := "76696e7d3576058e9e0fe82fff64f1526897675b7805fb20e151fa603373e905", checked := Try.checked }
namespace Rows
def none {H : Type} : Left H := { results := [], args := [] }

/-- 'tabardlaw14.ProfileCounts': WHATEVER THE INPUT: true; the input reads as it did. -/
def profileCountsSpec : ChangeSpec := { name := "profileCounts", fn := fun _ => fun
  | [d] => { results := [.lit (.bool true)], args := [d] }
  | _ => none }
def profileCountsRow : OpenClaim := { program := "ytgkcogbmpelgbaa", sum := "76696e7d3576058e9e0fe82fff64f1526897675b7805fb20e151fa603373e905", func := "tabard/tabardlaw14.ProfileCounts", spec := "profileCounts", unfollowed := true, recurses := true, plainKeys := false, apart := false }
def ProfileCountsSaid : Prop := profileCountsRow.holds Try.pinned (OpenSpec.ofChange profileCountsSpec)

/-- ITS FALSE NEIGHBOUR: 'it returns false'. Refute it at one input. -/
def profileCountsWrong : ChangeSpec := { name := "profileCounts", fn := fun _ => fun
  | [d] => { results := [.lit (.bool false)], args := [d] }
  | _ => none }
def ProfileCountsWrongFalsely : Prop := profileCountsRow.holds Try.pinned (OpenSpec.ofChange profileCountsWrong)

/-- 'tabardlaw14.ProfileParts': WHATEVER THE INPUT: true; the input reads as it did. -/
def profilePartsSpec : ChangeSpec := { name := "profileParts", fn := fun _ => fun
  | [d1, d2] => { results := [.lit (.bool true)], args := [d1, d2] }
  | _ => none }
def profilePartsRow : OpenClaim := { program := "ytgkcogbmpelgbaa", sum := "76696e7d3576058e9e0fe82fff64f1526897675b7805fb20e151fa603373e905", func := "tabard/tabardlaw14.ProfileParts", spec := "profileParts", inPlace := ["maps.clone"], unfollowed := true, recurses := true, plainKeys := false, apart := false }
def ProfilePartsSaid : Prop := profilePartsRow.holds Try.pinned (OpenSpec.ofChange profilePartsSpec)

/-- ITS FALSE NEIGHBOUR: 'it returns false'. Refute it at one input. -/
def profilePartsWrong : ChangeSpec := { name := "profileParts", fn := fun _ => fun
  | [d1, d2] => { results := [.lit (.bool false)], args := [d1, d2] }
  | _ => none }
def ProfilePartsWrongFalsely : Prop := profilePartsRow.holds Try.pinned (OpenSpec.ofChange profilePartsWrong)

/-- 'tabardlaw14.ProfileNone': WHATEVER THE INPUT: true; the input reads as it did. -/
def profileNoneSpec : ChangeSpec := { name := "profileNone", fn := fun _ => fun
  | [d] => { results := [.lit (.bool true)], args := [d] }
  | _ => none }
def profileNoneRow : OpenClaim := { program := "ytgkcogbmpelgbaa", sum := "76696e7d3576058e9e0fe82fff64f1526897675b7805fb20e151fa603373e905", func := "tabard/tabardlaw14.ProfileNone", spec := "profileNone", inPlace := ["maps.clone"], unfollowed := true, recurses := true, plainKeys := false, apart := false }
def ProfileNoneSaid : Prop := profileNoneRow.holds Try.pinned (OpenSpec.ofChange profileNoneSpec)

/-- ITS FALSE NEIGHBOUR: 'it returns false'. Refute it at one input. -/
def profileNoneWrong : ChangeSpec := { name := "profileNone", fn := fun _ => fun
  | [d] => { results := [.lit (.bool false)], args := [d] }
  | _ => none }
def ProfileNoneWrongFalsely : Prop := profileNoneRow.holds Try.pinned (OpenSpec.ofChange profileNoneWrong)

/-- 'tabardlaw14.ProfileDoes': WHATEVER THE INPUT: true; the input reads as it did. -/
def profileDoesSpec : ChangeSpec := { name := "profileDoes", fn := fun _ => fun
  | [d] => { results := [.lit (.bool true)], args := [d] }
  | _ => none }
def profileDoesRow : OpenClaim := { program := "ytgkcogbmpelgbaa", sum := "76696e7d3576058e9e0fe82fff64f1526897675b7805fb20e151fa603373e905", func := "tabard/tabardlaw14.ProfileDoes", spec := "profileDoes", inPlace := ["maps.clone"], unfollowed := true, recurses := true, plainKeys := false, apart := false }
def ProfileDoesSaid : Prop := profileDoesRow.holds Try.pinned (OpenSpec.ofChange profileDoesSpec)

/-- ITS FALSE NEIGHBOUR: 'it returns false'. Refute it at one input. -/
def profileDoesWrong : ChangeSpec := { name := "profileDoes", fn := fun _ => fun
  | [d] => { results := [.lit (.bool false)], args := [d] }
  | _ => none }
def ProfileDoesWrongFalsely : Prop := profileDoesRow.holds Try.pinned (OpenSpec.ofChange profileDoesWrong)

/- THE SECOND FORM. 'bulk': how many values and letters a reading holds, each counted each time it is reached (what is shared counts as often as it is met; a slice's spare places count too). A statement '..UptoSaid' is the law's where the arguments, and the package variables that the reading takes, are together of bulk at most 1048576: NARROWER than '..Said'. Prove '..Said' where nothing that the law and all that it calls make is longer than what came in: it says more and counts as full. Else prove '..UptoSaid'. A law counts once. -/
mutual
def uptoBulk {H : Type} : DataW H → Nat
  | .lit (.string bytes) => bytes.length + 1
  | .lit _ => 1
  | .nil => 1
  | .ptr d => uptoBulk d + 1
  | .slice elems spare => uptoBulkAll elems + uptoBulkAll spare + 1
  | .agg parts => uptoBulkAll parts + 1
  | .iface _ d => uptoBulk d + 1
  | .map entries => uptoBulkEntries entries + 1
  | .held _ => 1
def uptoBulkAll {H : Type} : List (DataW H) → Nat
  | [] => 0
  | d :: r => uptoBulk d + uptoBulkAll r
def uptoBulkEntries {H : Type} : List (Lit × DataW H) → Nat
  | [] => 0
  | x :: r => uptoBulkEntry x + uptoBulkEntries r
def uptoBulkEntry {H : Type} : Lit × DataW H → Nat
  | (.string bytes, d) => bytes.length + uptoBulk d + 1
  | (_, d) => uptoBulk d + 1
 end
def uptoSmall : (H : Type) → List (DataW H) → Bool := fun _ ds => decide (uptoBulkAll ds ≤ 1048576)
def OpenSpec.upto (s : _root_.Go.ChangeSpec) : _root_.Go.OpenSpec := { _root_.Go.OpenSpec.ofChange s with cond := some uptoSmall }

/-- 'tabardlaw14.ProfileCounts', WHERE WHAT IT READS IS OF BULK AT MOST 1048576: true; the input reads as it did. -/
def profileCountsUptoRow : OpenClaim := { program := "ytgkcogbmpelgbaa", sum := "76696e7d3576058e9e0fe82fff64f1526897675b7805fb20e151fa603373e905", func := "tabard/tabardlaw14.ProfileCounts", spec := "profileCounts", unfollowed := true, recurses := true, plainKeys := false, apart := false, narrowed := true }
def ProfileCountsUptoSaid : Prop := profileCountsUptoRow.holds Try.pinned (OpenSpec.upto profileCountsSpec)

/-- 'tabardlaw14.ProfileParts', WHERE WHAT IT READS IS OF BULK AT MOST 1048576: true; the input reads as it did. -/
def profilePartsUptoRow : OpenClaim := { program := "ytgkcogbmpelgbaa", sum := "76696e7d3576058e9e0fe82fff64f1526897675b7805fb20e151fa603373e905", func := "tabard/tabardlaw14.ProfileParts", spec := "profileParts", inPlace := ["maps.clone"], unfollowed := true, recurses := true, plainKeys := false, apart := false, narrowed := true }
def ProfilePartsUptoSaid : Prop := profilePartsUptoRow.holds Try.pinned (OpenSpec.upto profilePartsSpec)

/-- 'tabardlaw14.ProfileNone', WHERE WHAT IT READS IS OF BULK AT MOST 1048576: true; the input reads as it did. -/
def profileNoneUptoRow : OpenClaim := { program := "ytgkcogbmpelgbaa", sum := "76696e7d3576058e9e0fe82fff64f1526897675b7805fb20e151fa603373e905", func := "tabard/tabardlaw14.ProfileNone", spec := "profileNone", inPlace := ["maps.clone"], unfollowed := true, recurses := true, plainKeys := false, apart := false, narrowed := true }
def ProfileNoneUptoSaid : Prop := profileNoneUptoRow.holds Try.pinned (OpenSpec.upto profileNoneSpec)

/-- 'tabardlaw14.ProfileDoes', WHERE WHAT IT READS IS OF BULK AT MOST 1048576: true; the input reads as it did. -/
def profileDoesUptoRow : OpenClaim := { program := "ytgkcogbmpelgbaa", sum := "76696e7d3576058e9e0fe82fff64f1526897675b7805fb20e151fa603373e905", func := "tabard/tabardlaw14.ProfileDoes", spec := "profileDoes", inPlace := ["maps.clone"], unfollowed := true, recurses := true, plainKeys := false, apart := false, narrowed := true }
def ProfileDoesUptoSaid : Prop := profileDoesUptoRow.holds Try.pinned (OpenSpec.upto profileDoesSpec)

end Rows
end Go.Proofs.Ytgkcogbmpelgbaa
