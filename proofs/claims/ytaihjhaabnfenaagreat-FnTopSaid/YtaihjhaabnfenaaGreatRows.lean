/-
  No cell of these rows narrows 'for every input' (looked for: loops, veiled, ifaces, maps, wideKeys, modest, calm, conditions, laid).
  DERIVED. THE GIVEN ROWS OF THIS SEAT. 8 by the template 'for every input the law returns true; each argument reads behind the call as it read before'; 0 by the template 'total and deterministic' (their statements: YtaihjhaabnfenaaGreatTotals.lean).
  GIVEN WITH THE SEED: the statements are not yours to turn. If you find one false, say at which input.
  Laid BY PROGRAM, IN A SANDBOX (cutbox-rows.mjs): the forced cells as the released guide's own fill.sh prints them over the translation cdd33bf4d77e27bc… (all of the seat's roots in one cut). By AI agents, Wed Nov 11 2026. No macro, syntax, notation, axiom, sorry.
-/
import Derived.Test.YtaihjhaabnfenaaGreatChecked
import GoSem.Claim
import GoSem.ClaimJoined
import GoSem.ClaimMapViews
import Derived.JoinedTies
import Derived.KernelRfl
namespace Go.Proofs.YtaihjhaabnfenaaGreat
/- THE CELL 'sum', in the pinned program and in every row, IS THE sha256 OF THE DUMP (.gsa) THAT YtaihjhaabnfenaaGreatProg.lean LOADS. Nothing in Lean hashes anything: it is a label: what it is worth is what the hold of that sum in a sandbox is worth. -/
noncomputable def Tryz.pinned : Pinned := { name := "ytaihjhaabnfenaagreat", sum := "cdd33bf4d77e27bc8d208d4d1c6dde32e233e6cca395496f74de8db2443b3732", checked := Tryz.checked }
namespace Rows
def none {H : Type} : Left H := { results := [], args := [] }

/-- 'laws.FnTop': WHATEVER THE INPUT: true; the input reads as it did. -/
def fnTopSpec : ChangeSpec := { name := "fnTop", fn := fun _ => fun
  | [d] => { results := [.lit (.bool true)], args := [d] }
  | _ => none }
def fnTopRow : OpenClaim := { program := "ytaihjhaabnfenaagreat", sum := "cdd33bf4d77e27bc8d208d4d1c6dde32e233e6cca395496f74de8db2443b3732", func := "loop.example/maltclaim/laws.FnTop", spec := "fnTop", unfollowed := true, recurses := true, apart := false }
def FnTopSaid : Prop := fnTopRow.holds Tryz.pinned (OpenSpec.ofChange fnTopSpec)

/-- ITS FALSE NEIGHBOUR: 'it returns false'. Refute it at one input. -/
def fnTopWrong : ChangeSpec := { name := "fnTop", fn := fun _ => fun
  | [d] => { results := [.lit (.bool false)], args := [d] }
  | _ => none }
def FnTopWrongFalsely : Prop := fnTopRow.holds Tryz.pinned (OpenSpec.ofChange fnTopWrong)

/-- 'laws.FnExactClaimStop': WHATEVER THE INPUT: true; the input reads as it did. -/
def fnExactClaimStopSpec : ChangeSpec := { name := "fnExactClaimStop", fn := fun _ => fun
  | [d1, d2] => { results := [.lit (.bool true)], args := [d1, d2] }
  | _ => none }
def fnExactClaimStopRow : OpenClaim := { program := "ytaihjhaabnfenaagreat", sum := "cdd33bf4d77e27bc8d208d4d1c6dde32e233e6cca395496f74de8db2443b3732", func := "loop.example/maltclaim/laws.FnExactClaimStop", spec := "fnExactClaimStop", unfollowed := true, recurses := true, apart := false }
def FnExactClaimStopSaid : Prop := fnExactClaimStopRow.holds Tryz.pinned (OpenSpec.ofChange fnExactClaimStopSpec)

/-- ITS FALSE NEIGHBOUR: 'it returns false'. Refute it at one input. -/
def fnExactClaimStopWrong : ChangeSpec := { name := "fnExactClaimStop", fn := fun _ => fun
  | [d1, d2] => { results := [.lit (.bool false)], args := [d1, d2] }
  | _ => none }
def FnExactClaimStopWrongFalsely : Prop := fnExactClaimStopRow.holds Tryz.pinned (OpenSpec.ofChange fnExactClaimStopWrong)

/-- 'laws.FnMay': WHATEVER THE INPUT: true; the input reads as it did. -/
def fnMaySpec : ChangeSpec := { name := "fnMay", fn := fun _ => fun
  | [d1, d2] => { results := [.lit (.bool true)], args := [d1, d2] }
  | _ => none }
def fnMayRow : OpenClaim := { program := "ytaihjhaabnfenaagreat", sum := "cdd33bf4d77e27bc8d208d4d1c6dde32e233e6cca395496f74de8db2443b3732", func := "loop.example/maltclaim/laws.FnMay", spec := "fnMay", unfollowed := true, recurses := true, apart := false }
def FnMaySaid : Prop := fnMayRow.holds Tryz.pinned (OpenSpec.ofChange fnMaySpec)

/-- ITS FALSE NEIGHBOUR: 'it returns false'. Refute it at one input. -/
def fnMayWrong : ChangeSpec := { name := "fnMay", fn := fun _ => fun
  | [d1, d2] => { results := [.lit (.bool false)], args := [d1, d2] }
  | _ => none }
def FnMayWrongFalsely : Prop := fnMayRow.holds Tryz.pinned (OpenSpec.ofChange fnMayWrong)

/-- 'laws.FnExactClaimOver': WHATEVER THE INPUT: true; the input reads as it did. -/
def fnExactClaimOverSpec : ChangeSpec := { name := "fnExactClaimOver", fn := fun _ => fun
  | [d1, d2, d3, d4] => { results := [.lit (.bool true)], args := [d1, d2, d3, d4] }
  | _ => none }
def fnExactClaimOverRow : OpenClaim := { program := "ytaihjhaabnfenaagreat", sum := "cdd33bf4d77e27bc8d208d4d1c6dde32e233e6cca395496f74de8db2443b3732", func := "loop.example/maltclaim/laws.FnExactClaimOver", spec := "fnExactClaimOver", unfollowed := true, recurses := true, apart := false }
def FnExactClaimOverSaid : Prop := fnExactClaimOverRow.holds Tryz.pinned (OpenSpec.ofChange fnExactClaimOverSpec)

/-- ITS FALSE NEIGHBOUR: 'it returns false'. Refute it at one input. -/
def fnExactClaimOverWrong : ChangeSpec := { name := "fnExactClaimOver", fn := fun _ => fun
  | [d1, d2, d3, d4] => { results := [.lit (.bool false)], args := [d1, d2, d3, d4] }
  | _ => none }
def FnExactClaimOverWrongFalsely : Prop := fnExactClaimOverRow.holds Tryz.pinned (OpenSpec.ofChange fnExactClaimOverWrong)

/-- 'laws.FnExactClaimCode': WHATEVER THE INPUT: true; the input reads as it did. -/
def fnExactClaimCodeSpec : ChangeSpec := { name := "fnExactClaimCode", fn := fun _ => fun
  | [d1, d2] => { results := [.lit (.bool true)], args := [d1, d2] }
  | _ => none }
def fnExactClaimCodeRow : OpenClaim := { program := "ytaihjhaabnfenaagreat", sum := "cdd33bf4d77e27bc8d208d4d1c6dde32e233e6cca395496f74de8db2443b3732", func := "loop.example/maltclaim/laws.FnExactClaimCode", spec := "fnExactClaimCode", unfollowed := true, recurses := true, apart := false }
def FnExactClaimCodeSaid : Prop := fnExactClaimCodeRow.holds Tryz.pinned (OpenSpec.ofChange fnExactClaimCodeSpec)

/-- ITS FALSE NEIGHBOUR: 'it returns false'. Refute it at one input. -/
def fnExactClaimCodeWrong : ChangeSpec := { name := "fnExactClaimCode", fn := fun _ => fun
  | [d1, d2] => { results := [.lit (.bool false)], args := [d1, d2] }
  | _ => none }
def FnExactClaimCodeWrongFalsely : Prop := fnExactClaimCodeRow.holds Tryz.pinned (OpenSpec.ofChange fnExactClaimCodeWrong)

/-- 'laws.FnBack': WHATEVER THE INPUT: true; the input reads as it did. -/
def fnBackSpec : ChangeSpec := { name := "fnBack", fn := fun _ => fun
  | [d] => { results := [.lit (.bool true)], args := [d] }
  | _ => none }
def fnBackRow : OpenClaim := { program := "ytaihjhaabnfenaagreat", sum := "cdd33bf4d77e27bc8d208d4d1c6dde32e233e6cca395496f74de8db2443b3732", func := "loop.example/maltclaim/laws.FnBack", spec := "fnBack", unfollowed := true, recurses := true, apart := false }
def FnBackSaid : Prop := fnBackRow.holds Tryz.pinned (OpenSpec.ofChange fnBackSpec)

/-- ITS FALSE NEIGHBOUR: 'it returns false'. Refute it at one input. -/
def fnBackWrong : ChangeSpec := { name := "fnBack", fn := fun _ => fun
  | [d] => { results := [.lit (.bool false)], args := [d] }
  | _ => none }
def FnBackWrongFalsely : Prop := fnBackRow.holds Tryz.pinned (OpenSpec.ofChange fnBackWrong)

/-- 'laws.FnGrant': WHATEVER THE INPUT: true; the input reads as it did. -/
def fnGrantSpec : ChangeSpec := { name := "fnGrant", fn := fun _ => fun
  | [d] => { results := [.lit (.bool true)], args := [d] }
  | _ => none }
def fnGrantRow : OpenClaim := { program := "ytaihjhaabnfenaagreat", sum := "cdd33bf4d77e27bc8d208d4d1c6dde32e233e6cca395496f74de8db2443b3732", func := "loop.example/maltclaim/laws.FnGrant", spec := "fnGrant", unfollowed := true, recurses := true, apart := false }
def FnGrantSaid : Prop := fnGrantRow.holds Tryz.pinned (OpenSpec.ofChange fnGrantSpec)

/-- ITS FALSE NEIGHBOUR: 'it returns false'. Refute it at one input. -/
def fnGrantWrong : ChangeSpec := { name := "fnGrant", fn := fun _ => fun
  | [d] => { results := [.lit (.bool false)], args := [d] }
  | _ => none }
def FnGrantWrongFalsely : Prop := fnGrantRow.holds Tryz.pinned (OpenSpec.ofChange fnGrantWrong)

/-- 'laws.FnExactClaimGrant': WHATEVER THE INPUT: true; the input reads as it did. -/
def fnExactClaimGrantSpec : ChangeSpec := { name := "fnExactClaimGrant", fn := fun _ => fun
  | [d1, d2] => { results := [.lit (.bool true)], args := [d1, d2] }
  | _ => none }
def fnExactClaimGrantRow : OpenClaim := { program := "ytaihjhaabnfenaagreat", sum := "cdd33bf4d77e27bc8d208d4d1c6dde32e233e6cca395496f74de8db2443b3732", func := "loop.example/maltclaim/laws.FnExactClaimGrant", spec := "fnExactClaimGrant", unfollowed := true, recurses := true, apart := false }
def FnExactClaimGrantSaid : Prop := fnExactClaimGrantRow.holds Tryz.pinned (OpenSpec.ofChange fnExactClaimGrantSpec)

/-- ITS FALSE NEIGHBOUR: 'it returns false'. Refute it at one input. -/
def fnExactClaimGrantWrong : ChangeSpec := { name := "fnExactClaimGrant", fn := fun _ => fun
  | [d1, d2] => { results := [.lit (.bool false)], args := [d1, d2] }
  | _ => none }
def FnExactClaimGrantWrongFalsely : Prop := fnExactClaimGrantRow.holds Tryz.pinned (OpenSpec.ofChange fnExactClaimGrantWrong)

/- THE SECOND FORM. 'bulk': how many values and letters a reading holds, each counted each time it is reached (what is shared counts as often as it is met; a slice's spare places count too). A statement '..UptoSaid' is the law's where the arguments, and the package variables that the reading takes, are together of bulk at most 1048576: NARROWER than '..Said'. Prove '..Said' where nothing that the law and all that it calls make is longer than what came in: it says more and counts as full. Else prove '..UptoSaid'. A law counts once. -/
mutual
def uptoBulk {H : Type} : DataW H → Nat
  | .lit (.string bytes) => bytes.length + 1
  | .lit _ => 1
  | .nil => 1
  | .ptr d => uptoBulk d + 1
  | .slice elems spare => uptoBulkAll elems + uptoBulkAll spare + 1
  | .agg parts => uptoBulkAll parts + 1
  | .iface _ d => uptoBulk d + 1
  | .map entries => uptoBulkEntries entries + 1
  | .held _ => 1
def uptoBulkAll {H : Type} : List (DataW H) → Nat
  | [] => 0
  | d :: r => uptoBulk d + uptoBulkAll r
def uptoBulkEntries {H : Type} : List (Lit × DataW H) → Nat
  | [] => 0
  | x :: r => uptoBulkEntry x + uptoBulkEntries r
def uptoBulkEntry {H : Type} : Lit × DataW H → Nat
  | (.string bytes, d) => bytes.length + uptoBulk d + 1
  | (_, d) => uptoBulk d + 1
 end
def uptoSmall : (H : Type) → List (DataW H) → Bool := fun _ ds => decide (uptoBulkAll ds ≤ 1048576)
def OpenSpec.upto (s : _root_.Go.ChangeSpec) : _root_.Go.OpenSpec := { _root_.Go.OpenSpec.ofChange s with cond := some uptoSmall }

/-- 'laws.FnTop', WHERE WHAT IT READS IS OF BULK AT MOST 1048576: true; the input reads as it did. -/
def fnTopUptoRow : OpenClaim := { program := "ytaihjhaabnfenaagreat", sum := "cdd33bf4d77e27bc8d208d4d1c6dde32e233e6cca395496f74de8db2443b3732", func := "loop.example/maltclaim/laws.FnTop", spec := "fnTop", unfollowed := true, recurses := true, apart := false, narrowed := true }
def FnTopUptoSaid : Prop := fnTopUptoRow.holds Tryz.pinned (OpenSpec.upto fnTopSpec)

/-- 'laws.FnExactClaimStop', WHERE WHAT IT READS IS OF BULK AT MOST 1048576: true; the input reads as it did. -/
def fnExactClaimStopUptoRow : OpenClaim := { program := "ytaihjhaabnfenaagreat", sum := "cdd33bf4d77e27bc8d208d4d1c6dde32e233e6cca395496f74de8db2443b3732", func := "loop.example/maltclaim/laws.FnExactClaimStop", spec := "fnExactClaimStop", unfollowed := true, recurses := true, apart := false, narrowed := true }
def FnExactClaimStopUptoSaid : Prop := fnExactClaimStopUptoRow.holds Tryz.pinned (OpenSpec.upto fnExactClaimStopSpec)

/-- 'laws.FnMay', WHERE WHAT IT READS IS OF BULK AT MOST 1048576: true; the input reads as it did. -/
def fnMayUptoRow : OpenClaim := { program := "ytaihjhaabnfenaagreat", sum := "cdd33bf4d77e27bc8d208d4d1c6dde32e233e6cca395496f74de8db2443b3732", func := "loop.example/maltclaim/laws.FnMay", spec := "fnMay", unfollowed := true, recurses := true, apart := false, narrowed := true }
def FnMayUptoSaid : Prop := fnMayUptoRow.holds Tryz.pinned (OpenSpec.upto fnMaySpec)

/-- 'laws.FnExactClaimOver', WHERE WHAT IT READS IS OF BULK AT MOST 1048576: true; the input reads as it did. -/
def fnExactClaimOverUptoRow : OpenClaim := { program := "ytaihjhaabnfenaagreat", sum := "cdd33bf4d77e27bc8d208d4d1c6dde32e233e6cca395496f74de8db2443b3732", func := "loop.example/maltclaim/laws.FnExactClaimOver", spec := "fnExactClaimOver", unfollowed := true, recurses := true, apart := false, narrowed := true }
def FnExactClaimOverUptoSaid : Prop := fnExactClaimOverUptoRow.holds Tryz.pinned (OpenSpec.upto fnExactClaimOverSpec)

/-- 'laws.FnExactClaimCode', WHERE WHAT IT READS IS OF BULK AT MOST 1048576: true; the input reads as it did. -/
def fnExactClaimCodeUptoRow : OpenClaim := { program := "ytaihjhaabnfenaagreat", sum := "cdd33bf4d77e27bc8d208d4d1c6dde32e233e6cca395496f74de8db2443b3732", func := "loop.example/maltclaim/laws.FnExactClaimCode", spec := "fnExactClaimCode", unfollowed := true, recurses := true, apart := false, narrowed := true }
def FnExactClaimCodeUptoSaid : Prop := fnExactClaimCodeUptoRow.holds Tryz.pinned (OpenSpec.upto fnExactClaimCodeSpec)

/-- 'laws.FnBack', WHERE WHAT IT READS IS OF BULK AT MOST 1048576: true; the input reads as it did. -/
def fnBackUptoRow : OpenClaim := { program := "ytaihjhaabnfenaagreat", sum := "cdd33bf4d77e27bc8d208d4d1c6dde32e233e6cca395496f74de8db2443b3732", func := "loop.example/maltclaim/laws.FnBack", spec := "fnBack", unfollowed := true, recurses := true, apart := false, narrowed := true }
def FnBackUptoSaid : Prop := fnBackUptoRow.holds Tryz.pinned (OpenSpec.upto fnBackSpec)

/-- 'laws.FnGrant', WHERE WHAT IT READS IS OF BULK AT MOST 1048576: true; the input reads as it did. -/
def fnGrantUptoRow : OpenClaim := { program := "ytaihjhaabnfenaagreat", sum := "cdd33bf4d77e27bc8d208d4d1c6dde32e233e6cca395496f74de8db2443b3732", func := "loop.example/maltclaim/laws.FnGrant", spec := "fnGrant", unfollowed := true, recurses := true, apart := false, narrowed := true }
def FnGrantUptoSaid : Prop := fnGrantUptoRow.holds Tryz.pinned (OpenSpec.upto fnGrantSpec)

/-- 'laws.FnExactClaimGrant', WHERE WHAT IT READS IS OF BULK AT MOST 1048576: true; the input reads as it did. -/
def fnExactClaimGrantUptoRow : OpenClaim := { program := "ytaihjhaabnfenaagreat", sum := "cdd33bf4d77e27bc8d208d4d1c6dde32e233e6cca395496f74de8db2443b3732", func := "loop.example/maltclaim/laws.FnExactClaimGrant", spec := "fnExactClaimGrant", unfollowed := true, recurses := true, apart := false, narrowed := true }
def FnExactClaimGrantUptoSaid : Prop := fnExactClaimGrantUptoRow.holds Tryz.pinned (OpenSpec.upto fnExactClaimGrantSpec)

end Rows
end Go.Proofs.YtaihjhaabnfenaaGreat
