/-
  No cell of these rows narrows 'for every input' (looked for: loops, veiled, ifaces, maps, wideKeys, modest, calm, conditions, laid).
  DERIVED. THE GIVEN ROWS OF THIS SEAT. 6 by the template 'for every input the law returns true; each argument reads behind the call as it read before'; 0 by the template 'total and deterministic' (their statements: YtaihjhaabnfenaaTotals.lean).
  GIVEN WITH THE SEED: the statements are not yours to turn. If you find one false, say at which input.
  Laid BY PROGRAM, IN A SANDBOX (cutbox-rows.mjs): the forced cells as the released guide's own fill.sh prints them over the translation e502dadb99d5127e… (all of the seat's roots in one cut). By AI agents, Wed Nov 11 2026. No macro, syntax, notation, axiom, sorry.
-/
import Derived.Test.YtaihjhaabnfenaaChecked
import GoSem.Claim
import GoSem.ClaimJoined
import GoSem.ClaimMapViews
import Derived.JoinedTies
import Derived.KernelRfl
namespace Go.Proofs.Ytaihjhaabnfenaa
/- THE CELL 'sum', in the pinned program and in every row, IS THE sha256 OF THE DUMP (.gsa) THAT YtaihjhaabnfenaaProg.lean LOADS. Nothing in Lean hashes anything: it is a label: what it is worth is what the hold of that sum in a sandbox is worth. -/
noncomputable def Try.pinned : Pinned := { name := "ytaihjhaabnfenaa", sum := "e502dadb99d5127e628c7dc0e8390dba6767b145c6e68c68b391c95622b8c93d", checked := Try.checked }
namespace Rows
def none {H : Type} : Left H := { results := [], args := [] }

/-- 'laws.FnExactConstants': WHATEVER THE INPUT: true; the input reads as it did. -/
def fnExactConstantsSpec : ChangeSpec := { name := "fnExactConstants", fn := fun _ => fun
  | [] => { results := [.lit (.bool true)], args := [] }
  | _ => none }
def fnExactConstantsRow : OpenClaim := { program := "ytaihjhaabnfenaa", sum := "e502dadb99d5127e628c7dc0e8390dba6767b145c6e68c68b391c95622b8c93d", func := "loop.example/maltclaim/laws.FnExactConstants", spec := "fnExactConstants", apart := false }
def FnExactConstantsSaid : Prop := fnExactConstantsRow.holds Try.pinned (OpenSpec.ofChange fnExactConstantsSpec)

/-- ITS FALSE NEIGHBOUR: 'it returns false'. Refute it at one input. -/
def fnExactConstantsWrong : ChangeSpec := { name := "fnExactConstants", fn := fun _ => fun
  | [] => { results := [.lit (.bool false)], args := [] }
  | _ => none }
def FnExactConstantsWrongFalsely : Prop := fnExactConstantsRow.holds Try.pinned (OpenSpec.ofChange fnExactConstantsWrong)

/-- 'laws.FnExactClaimWantOk': WHATEVER THE INPUT: true; the input reads as it did. -/
def fnExactClaimWantOkSpec : ChangeSpec := { name := "fnExactClaimWantOk", fn := fun _ => fun
  | [d] => { results := [.lit (.bool true)], args := [d] }
  | _ => none }
def fnExactClaimWantOkRow : OpenClaim := { program := "ytaihjhaabnfenaa", sum := "e502dadb99d5127e628c7dc0e8390dba6767b145c6e68c68b391c95622b8c93d", func := "loop.example/maltclaim/laws.FnExactClaimWantOk", spec := "fnExactClaimWantOk", unfollowed := true, recurses := true, apart := false }
def FnExactClaimWantOkSaid : Prop := fnExactClaimWantOkRow.holds Try.pinned (OpenSpec.ofChange fnExactClaimWantOkSpec)

/-- ITS FALSE NEIGHBOUR: 'it returns false'. Refute it at one input. -/
def fnExactClaimWantOkWrong : ChangeSpec := { name := "fnExactClaimWantOk", fn := fun _ => fun
  | [d] => { results := [.lit (.bool false)], args := [d] }
  | _ => none }
def FnExactClaimWantOkWrongFalsely : Prop := fnExactClaimWantOkRow.holds Try.pinned (OpenSpec.ofChange fnExactClaimWantOkWrong)

/-- 'laws.FnExactClaimBookOk': WHATEVER THE INPUT: true; the input reads as it did. -/
def fnExactClaimBookOkSpec : ChangeSpec := { name := "fnExactClaimBookOk", fn := fun _ => fun
  | [d] => { results := [.lit (.bool true)], args := [d] }
  | _ => none }
def fnExactClaimBookOkRow : OpenClaim := { program := "ytaihjhaabnfenaa", sum := "e502dadb99d5127e628c7dc0e8390dba6767b145c6e68c68b391c95622b8c93d", func := "loop.example/maltclaim/laws.FnExactClaimBookOk", spec := "fnExactClaimBookOk", unfollowed := true, recurses := true, apart := false }
def FnExactClaimBookOkSaid : Prop := fnExactClaimBookOkRow.holds Try.pinned (OpenSpec.ofChange fnExactClaimBookOkSpec)

/-- ITS FALSE NEIGHBOUR: 'it returns false'. Refute it at one input. -/
def fnExactClaimBookOkWrong : ChangeSpec := { name := "fnExactClaimBookOk", fn := fun _ => fun
  | [d] => { results := [.lit (.bool false)], args := [d] }
  | _ => none }
def FnExactClaimBookOkWrongFalsely : Prop := fnExactClaimBookOkRow.holds Try.pinned (OpenSpec.ofChange fnExactClaimBookOkWrong)

/-- 'laws.FnExactClaimMay': WHATEVER THE INPUT: true; the input reads as it did. -/
def fnExactClaimMaySpec : ChangeSpec := { name := "fnExactClaimMay", fn := fun _ => fun
  | [d1, d2] => { results := [.lit (.bool true)], args := [d1, d2] }
  | _ => none }
def fnExactClaimMayRow : OpenClaim := { program := "ytaihjhaabnfenaa", sum := "e502dadb99d5127e628c7dc0e8390dba6767b145c6e68c68b391c95622b8c93d", func := "loop.example/maltclaim/laws.FnExactClaimMay", spec := "fnExactClaimMay", unfollowed := true, recurses := true, apart := false }
def FnExactClaimMaySaid : Prop := fnExactClaimMayRow.holds Try.pinned (OpenSpec.ofChange fnExactClaimMaySpec)

/-- ITS FALSE NEIGHBOUR: 'it returns false'. Refute it at one input. -/
def fnExactClaimMayWrong : ChangeSpec := { name := "fnExactClaimMay", fn := fun _ => fun
  | [d1, d2] => { results := [.lit (.bool false)], args := [d1, d2] }
  | _ => none }
def FnExactClaimMayWrongFalsely : Prop := fnExactClaimMayRow.holds Try.pinned (OpenSpec.ofChange fnExactClaimMayWrong)

/-- 'laws.FnExactClaimShut': WHATEVER THE INPUT: true; the input reads as it did. -/
def fnExactClaimShutSpec : ChangeSpec := { name := "fnExactClaimShut", fn := fun _ => fun
  | [d1, d2] => { results := [.lit (.bool true)], args := [d1, d2] }
  | _ => none }
def fnExactClaimShutRow : OpenClaim := { program := "ytaihjhaabnfenaa", sum := "e502dadb99d5127e628c7dc0e8390dba6767b145c6e68c68b391c95622b8c93d", func := "loop.example/maltclaim/laws.FnExactClaimShut", spec := "fnExactClaimShut", unfollowed := true, recurses := true, apart := false }
def FnExactClaimShutSaid : Prop := fnExactClaimShutRow.holds Try.pinned (OpenSpec.ofChange fnExactClaimShutSpec)

/-- ITS FALSE NEIGHBOUR: 'it returns false'. Refute it at one input. -/
def fnExactClaimShutWrong : ChangeSpec := { name := "fnExactClaimShut", fn := fun _ => fun
  | [d1, d2] => { results := [.lit (.bool false)], args := [d1, d2] }
  | _ => none }
def FnExactClaimShutWrongFalsely : Prop := fnExactClaimShutRow.holds Try.pinned (OpenSpec.ofChange fnExactClaimShutWrong)

/-- 'laws.FnOver': WHATEVER THE INPUT: true; the input reads as it did. -/
def fnOverSpec : ChangeSpec := { name := "fnOver", fn := fun _ => fun
  | [d] => { results := [.lit (.bool true)], args := [d] }
  | _ => none }
def fnOverRow : OpenClaim := { program := "ytaihjhaabnfenaa", sum := "e502dadb99d5127e628c7dc0e8390dba6767b145c6e68c68b391c95622b8c93d", func := "loop.example/maltclaim/laws.FnOver", spec := "fnOver", unfollowed := true, recurses := true, apart := false }
def FnOverSaid : Prop := fnOverRow.holds Try.pinned (OpenSpec.ofChange fnOverSpec)

/-- ITS FALSE NEIGHBOUR: 'it returns false'. Refute it at one input. -/
def fnOverWrong : ChangeSpec := { name := "fnOver", fn := fun _ => fun
  | [d] => { results := [.lit (.bool false)], args := [d] }
  | _ => none }
def FnOverWrongFalsely : Prop := fnOverRow.holds Try.pinned (OpenSpec.ofChange fnOverWrong)

/- THE SECOND FORM. 'bulk': how many values and letters a reading holds, each counted each time it is reached (what is shared counts as often as it is met; a slice's spare places count too). A statement '..UptoSaid' is the law's where the arguments, and the package variables that the reading takes, are together of bulk at most 1048576: NARROWER than '..Said'. Prove '..Said' where nothing that the law and all that it calls make is longer than what came in: it says more and counts as full. Else prove '..UptoSaid'. A law counts once. -/
mutual
def uptoBulk {H : Type} : DataW H → Nat
  | .lit (.string bytes) => bytes.length + 1
  | .lit _ => 1
  | .nil => 1
  | .ptr d => uptoBulk d + 1
  | .slice elems spare => uptoBulkAll elems + uptoBulkAll spare + 1
  | .agg parts => uptoBulkAll parts + 1
  | .iface _ d => uptoBulk d + 1
  | .map entries => uptoBulkEntries entries + 1
  | .held _ => 1
def uptoBulkAll {H : Type} : List (DataW H) → Nat
  | [] => 0
  | d :: r => uptoBulk d + uptoBulkAll r
def uptoBulkEntries {H : Type} : List (Lit × DataW H) → Nat
  | [] => 0
  | x :: r => uptoBulkEntry x + uptoBulkEntries r
def uptoBulkEntry {H : Type} : Lit × DataW H → Nat
  | (.string bytes, d) => bytes.length + uptoBulk d + 1
  | (_, d) => uptoBulk d + 1
 end
def uptoSmall : (H : Type) → List (DataW H) → Bool := fun _ ds => decide (uptoBulkAll ds ≤ 1048576)
def OpenSpec.upto (s : _root_.Go.ChangeSpec) : _root_.Go.OpenSpec := { _root_.Go.OpenSpec.ofChange s with cond := some uptoSmall }

/-- 'laws.FnExactConstants', WHERE WHAT IT READS IS OF BULK AT MOST 1048576: true; the input reads as it did. -/
def fnExactConstantsUptoRow : OpenClaim := { program := "ytaihjhaabnfenaa", sum := "e502dadb99d5127e628c7dc0e8390dba6767b145c6e68c68b391c95622b8c93d", func := "loop.example/maltclaim/laws.FnExactConstants", spec := "fnExactConstants", apart := false, narrowed := true }
def FnExactConstantsUptoSaid : Prop := fnExactConstantsUptoRow.holds Try.pinned (OpenSpec.upto fnExactConstantsSpec)

/-- 'laws.FnExactClaimWantOk', WHERE WHAT IT READS IS OF BULK AT MOST 1048576: true; the input reads as it did. -/
def fnExactClaimWantOkUptoRow : OpenClaim := { program := "ytaihjhaabnfenaa", sum := "e502dadb99d5127e628c7dc0e8390dba6767b145c6e68c68b391c95622b8c93d", func := "loop.example/maltclaim/laws.FnExactClaimWantOk", spec := "fnExactClaimWantOk", unfollowed := true, recurses := true, apart := false, narrowed := true }
def FnExactClaimWantOkUptoSaid : Prop := fnExactClaimWantOkUptoRow.holds Try.pinned (OpenSpec.upto fnExactClaimWantOkSpec)

/-- 'laws.FnExactClaimBookOk', WHERE WHAT IT READS IS OF BULK AT MOST 1048576: true; the input reads as it did. -/
def fnExactClaimBookOkUptoRow : OpenClaim := { program := "ytaihjhaabnfenaa", sum := "e502dadb99d5127e628c7dc0e8390dba6767b145c6e68c68b391c95622b8c93d", func := "loop.example/maltclaim/laws.FnExactClaimBookOk", spec := "fnExactClaimBookOk", unfollowed := true, recurses := true, apart := false, narrowed := true }
def FnExactClaimBookOkUptoSaid : Prop := fnExactClaimBookOkUptoRow.holds Try.pinned (OpenSpec.upto fnExactClaimBookOkSpec)

/-- 'laws.FnExactClaimMay', WHERE WHAT IT READS IS OF BULK AT MOST 1048576: true; the input reads as it did. -/
def fnExactClaimMayUptoRow : OpenClaim := { program := "ytaihjhaabnfenaa", sum := "e502dadb99d5127e628c7dc0e8390dba6767b145c6e68c68b391c95622b8c93d", func := "loop.example/maltclaim/laws.FnExactClaimMay", spec := "fnExactClaimMay", unfollowed := true, recurses := true, apart := false, narrowed := true }
def FnExactClaimMayUptoSaid : Prop := fnExactClaimMayUptoRow.holds Try.pinned (OpenSpec.upto fnExactClaimMaySpec)

/-- 'laws.FnExactClaimShut', WHERE WHAT IT READS IS OF BULK AT MOST 1048576: true; the input reads as it did. -/
def fnExactClaimShutUptoRow : OpenClaim := { program := "ytaihjhaabnfenaa", sum := "e502dadb99d5127e628c7dc0e8390dba6767b145c6e68c68b391c95622b8c93d", func := "loop.example/maltclaim/laws.FnExactClaimShut", spec := "fnExactClaimShut", unfollowed := true, recurses := true, apart := false, narrowed := true }
def FnExactClaimShutUptoSaid : Prop := fnExactClaimShutUptoRow.holds Try.pinned (OpenSpec.upto fnExactClaimShutSpec)

/-- 'laws.FnOver', WHERE WHAT IT READS IS OF BULK AT MOST 1048576: true; the input reads as it did. -/
def fnOverUptoRow : OpenClaim := { program := "ytaihjhaabnfenaa", sum := "e502dadb99d5127e628c7dc0e8390dba6767b145c6e68c68b391c95622b8c93d", func := "loop.example/maltclaim/laws.FnOver", spec := "fnOver", unfollowed := true, recurses := true, apart := false, narrowed := true }
def FnOverUptoSaid : Prop := fnOverUptoRow.holds Try.pinned (OpenSpec.upto fnOverSpec)

end Rows
end Go.Proofs.Ytaihjhaabnfenaa
