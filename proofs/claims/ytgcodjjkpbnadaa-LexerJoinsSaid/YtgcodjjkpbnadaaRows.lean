/-
  No cell of these rows narrows 'for every input' (looked for: loops, veiled, ifaces, maps, wideKeys, modest, calm, conditions, laid).
  DERIVED. THE GIVEN ROWS OF THIS SEAT. 5 by the template 'for every input the law returns true; each argument reads behind the call as it read before'; 0 by the template 'total and deterministic' (their statements: YtgcodjjkpbnadaaTotals.lean).
  GIVEN WITH THE SEED: the statements are not yours to turn. If you find one false, say at which input.
  Laid BY PROGRAM, IN A SANDBOX (cutbox-rows.mjs): the forced cells as the released guide's own fill.sh prints them over the translation 7d284f78c328f4a3… (all of the seat's roots in one cut). By AI agents, Wed Nov 11 2026. No macro, syntax, notation, axiom, sorry.
-/
import Derived.Test.YtgcodjjkpbnadaaChecked
import GoSem.Claim
import GoSem.ClaimJoined
import GoSem.ClaimMapViews
import Derived.JoinedTies
import Derived.KernelRfl
namespace Go.Proofs.Ytgcodjjkpbnadaa
/- THE CELL 'sum', in the pinned program and in every row, IS THE sha256 OF THE DUMP (.gsa) THAT YtgcodjjkpbnadaaProg.lean LOADS. Nothing in Lean hashes anything: it is a label: what it is worth is what the hold of that sum in a sandbox is worth. -/
noncomputable def Try.pinned : Pinned := { name := "ytgcodjjkpbnadaa", sum := "7d284f78c328f4a3a8daad0e70a2c97287c1f73b5169cc58d28e41838194bc4c", checked := Try.checked }
namespace Rows
def none {H : Type} : Left H := { results := [], args := [] }

/-- 'quittancelaw07.LexerTells': WHATEVER THE INPUT: true; the input reads as it did. -/
def lexerTellsSpec : ChangeSpec := { name := "lexerTells", fn := fun _ => fun
  | [d] => { results := [.lit (.bool true)], args := [d] }
  | _ => none }
def lexerTellsRow : OpenClaim := { program := "ytgcodjjkpbnadaa", sum := "7d284f78c328f4a3a8daad0e70a2c97287c1f73b5169cc58d28e41838194bc4c", func := "quittance/quittancelaw07.LexerTells", spec := "lexerTells", unfollowed := true, recurses := true, apart := false }
def LexerTellsSaid : Prop := lexerTellsRow.holds Try.pinned (OpenSpec.ofChange lexerTellsSpec)

/-- ITS FALSE NEIGHBOUR: 'it returns false'. Refute it at one input. -/
def lexerTellsWrong : ChangeSpec := { name := "lexerTells", fn := fun _ => fun
  | [d] => { results := [.lit (.bool false)], args := [d] }
  | _ => none }
def LexerTellsWrongFalsely : Prop := lexerTellsRow.holds Try.pinned (OpenSpec.ofChange lexerTellsWrong)

/-- 'quittancelaw07.LexerStand': WHATEVER THE INPUT: true; the input reads as it did. -/
def lexerStandSpec : ChangeSpec := { name := "lexerStand", fn := fun _ => fun
  | [d] => { results := [.lit (.bool true)], args := [d] }
  | _ => none }
def lexerStandRow : OpenClaim := { program := "ytgcodjjkpbnadaa", sum := "7d284f78c328f4a3a8daad0e70a2c97287c1f73b5169cc58d28e41838194bc4c", func := "quittance/quittancelaw07.LexerStand", spec := "lexerStand", unfollowed := true, recurses := true, apart := false }
def LexerStandSaid : Prop := lexerStandRow.holds Try.pinned (OpenSpec.ofChange lexerStandSpec)

/-- ITS FALSE NEIGHBOUR: 'it returns false'. Refute it at one input. -/
def lexerStandWrong : ChangeSpec := { name := "lexerStand", fn := fun _ => fun
  | [d] => { results := [.lit (.bool false)], args := [d] }
  | _ => none }
def LexerStandWrongFalsely : Prop := lexerStandRow.holds Try.pinned (OpenSpec.ofChange lexerStandWrong)

/-- 'quittancelaw07.LexerWhite': WHATEVER THE INPUT: true; the input reads as it did. -/
def lexerWhiteSpec : ChangeSpec := { name := "lexerWhite", fn := fun _ => fun
  | [d1, d2] => { results := [.lit (.bool true)], args := [d1, d2] }
  | _ => none }
def lexerWhiteRow : OpenClaim := { program := "ytgcodjjkpbnadaa", sum := "7d284f78c328f4a3a8daad0e70a2c97287c1f73b5169cc58d28e41838194bc4c", func := "quittance/quittancelaw07.LexerWhite", spec := "lexerWhite", unfollowed := true, recurses := true, apart := false }
def LexerWhiteSaid : Prop := lexerWhiteRow.holds Try.pinned (OpenSpec.ofChange lexerWhiteSpec)

/-- ITS FALSE NEIGHBOUR: 'it returns false'. Refute it at one input. -/
def lexerWhiteWrong : ChangeSpec := { name := "lexerWhite", fn := fun _ => fun
  | [d1, d2] => { results := [.lit (.bool false)], args := [d1, d2] }
  | _ => none }
def LexerWhiteWrongFalsely : Prop := lexerWhiteRow.holds Try.pinned (OpenSpec.ofChange lexerWhiteWrong)

/-- 'quittancelaw07.LexerLong': WHATEVER THE INPUT: true; the input reads as it did. -/
def lexerLongSpec : ChangeSpec := { name := "lexerLong", fn := fun _ => fun
  | [d1, d2] => { results := [.lit (.bool true)], args := [d1, d2] }
  | _ => none }
def lexerLongRow : OpenClaim := { program := "ytgcodjjkpbnadaa", sum := "7d284f78c328f4a3a8daad0e70a2c97287c1f73b5169cc58d28e41838194bc4c", func := "quittance/quittancelaw07.LexerLong", spec := "lexerLong", unfollowed := true, recurses := true, apart := false }
def LexerLongSaid : Prop := lexerLongRow.holds Try.pinned (OpenSpec.ofChange lexerLongSpec)

/-- ITS FALSE NEIGHBOUR: 'it returns false'. Refute it at one input. -/
def lexerLongWrong : ChangeSpec := { name := "lexerLong", fn := fun _ => fun
  | [d1, d2] => { results := [.lit (.bool false)], args := [d1, d2] }
  | _ => none }
def LexerLongWrongFalsely : Prop := lexerLongRow.holds Try.pinned (OpenSpec.ofChange lexerLongWrong)

/-- 'quittancelaw07.LexerJoins': WHATEVER THE INPUT: true; the input reads as it did. -/
def lexerJoinsSpec : ChangeSpec := { name := "lexerJoins", fn := fun _ => fun
  | [d1, d2] => { results := [.lit (.bool true)], args := [d1, d2] }
  | _ => none }
def lexerJoinsRow : OpenClaim := { program := "ytgcodjjkpbnadaa", sum := "7d284f78c328f4a3a8daad0e70a2c97287c1f73b5169cc58d28e41838194bc4c", func := "quittance/quittancelaw07.LexerJoins", spec := "lexerJoins", unfollowed := true, recurses := true, apart := false }
def LexerJoinsSaid : Prop := lexerJoinsRow.holds Try.pinned (OpenSpec.ofChange lexerJoinsSpec)

/-- ITS FALSE NEIGHBOUR: 'it returns false'. Refute it at one input. -/
def lexerJoinsWrong : ChangeSpec := { name := "lexerJoins", fn := fun _ => fun
  | [d1, d2] => { results := [.lit (.bool false)], args := [d1, d2] }
  | _ => none }
def LexerJoinsWrongFalsely : Prop := lexerJoinsRow.holds Try.pinned (OpenSpec.ofChange lexerJoinsWrong)

/- THE SECOND FORM. 'bulk': how many values and letters a reading holds, each counted each time it is reached (what is shared counts as often as it is met; a slice's spare places count too). A statement '..UptoSaid' is the law's where the arguments, and the package variables that the reading takes, are together of bulk at most 1048576: NARROWER than '..Said'. Prove '..Said' where nothing that the law and all that it calls make is longer than what came in: it says more and counts as full. Else prove '..UptoSaid'. A law counts once. -/
mutual
def uptoBulk {H : Type} : DataW H → Nat
  | .lit (.string bytes) => bytes.length + 1
  | .lit _ => 1
  | .nil => 1
  | .ptr d => uptoBulk d + 1
  | .slice elems spare => uptoBulkAll elems + uptoBulkAll spare + 1
  | .agg parts => uptoBulkAll parts + 1
  | .iface _ d => uptoBulk d + 1
  | .map entries => uptoBulkEntries entries + 1
  | .held _ => 1
def uptoBulkAll {H : Type} : List (DataW H) → Nat
  | [] => 0
  | d :: r => uptoBulk d + uptoBulkAll r
def uptoBulkEntries {H : Type} : List (Lit × DataW H) → Nat
  | [] => 0
  | x :: r => uptoBulkEntry x + uptoBulkEntries r
def uptoBulkEntry {H : Type} : Lit × DataW H → Nat
  | (.string bytes, d) => bytes.length + uptoBulk d + 1
  | (_, d) => uptoBulk d + 1
 end
def uptoSmall : (H : Type) → List (DataW H) → Bool := fun _ ds => decide (uptoBulkAll ds ≤ 1048576)
def OpenSpec.upto (s : _root_.Go.ChangeSpec) : _root_.Go.OpenSpec := { _root_.Go.OpenSpec.ofChange s with cond := some uptoSmall }

/-- 'quittancelaw07.LexerTells', WHERE WHAT IT READS IS OF BULK AT MOST 1048576: true; the input reads as it did. -/
def lexerTellsUptoRow : OpenClaim := { program := "ytgcodjjkpbnadaa", sum := "7d284f78c328f4a3a8daad0e70a2c97287c1f73b5169cc58d28e41838194bc4c", func := "quittance/quittancelaw07.LexerTells", spec := "lexerTells", unfollowed := true, recurses := true, apart := false, narrowed := true }
def LexerTellsUptoSaid : Prop := lexerTellsUptoRow.holds Try.pinned (OpenSpec.upto lexerTellsSpec)

/-- 'quittancelaw07.LexerStand', WHERE WHAT IT READS IS OF BULK AT MOST 1048576: true; the input reads as it did. -/
def lexerStandUptoRow : OpenClaim := { program := "ytgcodjjkpbnadaa", sum := "7d284f78c328f4a3a8daad0e70a2c97287c1f73b5169cc58d28e41838194bc4c", func := "quittance/quittancelaw07.LexerStand", spec := "lexerStand", unfollowed := true, recurses := true, apart := false, narrowed := true }
def LexerStandUptoSaid : Prop := lexerStandUptoRow.holds Try.pinned (OpenSpec.upto lexerStandSpec)

/-- 'quittancelaw07.LexerWhite', WHERE WHAT IT READS IS OF BULK AT MOST 1048576: true; the input reads as it did. -/
def lexerWhiteUptoRow : OpenClaim := { program := "ytgcodjjkpbnadaa", sum := "7d284f78c328f4a3a8daad0e70a2c97287c1f73b5169cc58d28e41838194bc4c", func := "quittance/quittancelaw07.LexerWhite", spec := "lexerWhite", unfollowed := true, recurses := true, apart := false, narrowed := true }
def LexerWhiteUptoSaid : Prop := lexerWhiteUptoRow.holds Try.pinned (OpenSpec.upto lexerWhiteSpec)

/-- 'quittancelaw07.LexerLong', WHERE WHAT IT READS IS OF BULK AT MOST 1048576: true; the input reads as it did. -/
def lexerLongUptoRow : OpenClaim := { program := "ytgcodjjkpbnadaa", sum := "7d284f78c328f4a3a8daad0e70a2c97287c1f73b5169cc58d28e41838194bc4c", func := "quittance/quittancelaw07.LexerLong", spec := "lexerLong", unfollowed := true, recurses := true, apart := false, narrowed := true }
def LexerLongUptoSaid : Prop := lexerLongUptoRow.holds Try.pinned (OpenSpec.upto lexerLongSpec)

/-- 'quittancelaw07.LexerJoins', WHERE WHAT IT READS IS OF BULK AT MOST 1048576: true; the input reads as it did. -/
def lexerJoinsUptoRow : OpenClaim := { program := "ytgcodjjkpbnadaa", sum := "7d284f78c328f4a3a8daad0e70a2c97287c1f73b5169cc58d28e41838194bc4c", func := "quittance/quittancelaw07.LexerJoins", spec := "lexerJoins", unfollowed := true, recurses := true, apart := false, narrowed := true }
def LexerJoinsUptoSaid : Prop := lexerJoinsUptoRow.holds Try.pinned (OpenSpec.upto lexerJoinsSpec)

end Rows
end Go.Proofs.Ytgcodjjkpbnadaa
