/-
  No cell of these rows narrows 'for every input' (looked for: loops, veiled, ifaces, maps, wideKeys, modest, calm, conditions, laid).
  DERIVED. THE GIVEN ROWS OF THIS SEAT. 2 by the template 'for every input the law returns true; each argument reads behind the call as it read before'; 0 by the template 'total and deterministic' (their statements: YtekafkokpnihfaaGreatTotals.lean).
  GIVEN WITH THE SEED: the statements are not yours to turn. If you find one false, say at which input.
  Laid BY PROGRAM, IN A SANDBOX (cutbox-rows.mjs): the forced cells as the released guide's own fill.sh prints them over the translation 66babc31b8f580d6… (all of the seat's roots in one cut). By AI agents, Wed Nov 11 2026. No macro, syntax, notation, axiom, sorry.
-/
import Derived.Test.YtekafkokpnihfaaGreatChecked
import GoSem.Claim
import GoSem.ClaimJoined
import GoSem.ClaimMapViews
import Derived.JoinedTies
import Derived.KernelRfl
namespace Go.Proofs.YtekafkokpnihfaaGreat
/- THE CELL 'sum', in the pinned program and in every row, IS THE sha256 OF THE DUMP (.gsa) THAT YtekafkokpnihfaaGreatProg.lean LOADS. Nothing in Lean hashes anything: it is a label: what it is worth is what the hold of that sum in a sandbox is worth. -/
noncomputable def Tryz.pinned : Pinned := { name := "ytekafkokpnihfaagreat", sum := "66babc31b8f580d65c10657b9109493e9dd7d36076f85289486299af514d714b", checked := Tryz.checked }
namespace Rows
def none {H : Type} : Left H := { results := [], args := [] }

/-- 'posternlaw12.CanonOrders': WHATEVER THE INPUT: true; the input reads as it did. -/
def canonOrdersSpec : ChangeSpec := { name := "canonOrders", fn := fun _ => fun
  | [d1, d2, d3] => { results := [.lit (.bool true)], args := [d1, d2, d3] }
  | _ => none }
def canonOrdersRow : OpenClaim := { program := "ytekafkokpnihfaagreat", sum := "66babc31b8f580d65c10657b9109493e9dd7d36076f85289486299af514d714b", func := "postern/posternlaw12.CanonOrders", spec := "canonOrders", unfollowed := true, recurses := true, plainKeys := false, apart := false }
def CanonOrdersSaid : Prop := canonOrdersRow.holds Tryz.pinned (OpenSpec.ofChange canonOrdersSpec)

/-- ITS FALSE NEIGHBOUR: 'it returns false'. Refute it at one input. -/
def canonOrdersWrong : ChangeSpec := { name := "canonOrders", fn := fun _ => fun
  | [d1, d2, d3] => { results := [.lit (.bool false)], args := [d1, d2, d3] }
  | _ => none }
def CanonOrdersWrongFalsely : Prop := canonOrdersRow.holds Tryz.pinned (OpenSpec.ofChange canonOrdersWrong)

/-- 'posternlaw12.CanonTwo': WHATEVER THE INPUT: true; the input reads as it did. -/
def canonTwoSpec : ChangeSpec := { name := "canonTwo", fn := fun _ => fun
  | [d1, d2, d3] => { results := [.lit (.bool true)], args := [d1, d2, d3] }
  | _ => none }
def canonTwoRow : OpenClaim := { program := "ytekafkokpnihfaagreat", sum := "66babc31b8f580d65c10657b9109493e9dd7d36076f85289486299af514d714b", func := "postern/posternlaw12.CanonTwo", spec := "canonTwo", unfollowed := true, recurses := true, plainKeys := false, apart := false }
def CanonTwoSaid : Prop := canonTwoRow.holds Tryz.pinned (OpenSpec.ofChange canonTwoSpec)

/-- ITS FALSE NEIGHBOUR: 'it returns false'. Refute it at one input. -/
def canonTwoWrong : ChangeSpec := { name := "canonTwo", fn := fun _ => fun
  | [d1, d2, d3] => { results := [.lit (.bool false)], args := [d1, d2, d3] }
  | _ => none }
def CanonTwoWrongFalsely : Prop := canonTwoRow.holds Tryz.pinned (OpenSpec.ofChange canonTwoWrong)

/- THE SECOND FORM. 'bulk': how many values and letters a reading holds, each counted each time it is reached (what is shared counts as often as it is met; a slice's spare places count too). A statement '..UptoSaid' is the law's where the arguments, and the package variables that the reading takes, are together of bulk at most 1048576: NARROWER than '..Said'. Prove '..Said' where nothing that the law and all that it calls make is longer than what came in: it says more and counts as full. Else prove '..UptoSaid'. A law counts once. -/
mutual
def uptoBulk {H : Type} : DataW H → Nat
  | .lit (.string bytes) => bytes.length + 1
  | .lit _ => 1
  | .nil => 1
  | .ptr d => uptoBulk d + 1
  | .slice elems spare => uptoBulkAll elems + uptoBulkAll spare + 1
  | .agg parts => uptoBulkAll parts + 1
  | .iface _ d => uptoBulk d + 1
  | .map entries => uptoBulkEntries entries + 1
  | .held _ => 1
def uptoBulkAll {H : Type} : List (DataW H) → Nat
  | [] => 0
  | d :: r => uptoBulk d + uptoBulkAll r
def uptoBulkEntries {H : Type} : List (Lit × DataW H) → Nat
  | [] => 0
  | x :: r => uptoBulkEntry x + uptoBulkEntries r
def uptoBulkEntry {H : Type} : Lit × DataW H → Nat
  | (.string bytes, d) => bytes.length + uptoBulk d + 1
  | (_, d) => uptoBulk d + 1
 end
def uptoSmall : (H : Type) → List (DataW H) → Bool := fun _ ds => decide (uptoBulkAll ds ≤ 1048576)
def OpenSpec.upto (s : _root_.Go.ChangeSpec) : _root_.Go.OpenSpec := { _root_.Go.OpenSpec.ofChange s with cond := some uptoSmall }

/-- 'posternlaw12.CanonOrders', WHERE WHAT IT READS IS OF BULK AT MOST 1048576: true; the input reads as it did. -/
def canonOrdersUptoRow : OpenClaim := { program := "ytekafkokpnihfaagreat", sum := "66babc31b8f580d65c10657b9109493e9dd7d36076f85289486299af514d714b", func := "postern/posternlaw12.CanonOrders", spec := "canonOrders", unfollowed := true, recurses := true, plainKeys := false, apart := false, narrowed := true }
def CanonOrdersUptoSaid : Prop := canonOrdersUptoRow.holds Tryz.pinned (OpenSpec.upto canonOrdersSpec)

/-- 'posternlaw12.CanonTwo', WHERE WHAT IT READS IS OF BULK AT MOST 1048576: true; the input reads as it did. -/
def canonTwoUptoRow : OpenClaim := { program := "ytekafkokpnihfaagreat", sum := "66babc31b8f580d65c10657b9109493e9dd7d36076f85289486299af514d714b", func := "postern/posternlaw12.CanonTwo", spec := "canonTwo", unfollowed := true, recurses := true, plainKeys := false, apart := false, narrowed := true }
def CanonTwoUptoSaid : Prop := canonTwoUptoRow.holds Tryz.pinned (OpenSpec.upto canonTwoSpec)

end Rows
end Go.Proofs.YtekafkokpnihfaaGreat
