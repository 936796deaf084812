/-
  No cell of these rows narrows 'for every input' (looked for: loops, veiled, ifaces, maps, wideKeys, modest, calm, conditions, laid).
  DERIVED. THE GIVEN ROWS OF THIS SEAT. 3 by the template 'for every input the law returns true; each argument reads behind the call as it read before'; 0 by the template 'total and deterministic' (their statements: YtgfekidehbancaaTotals.lean).
  GIVEN WITH THE SEED: the statements are not yours to turn. If you find one false, say at which input.
  Laid BY PROGRAM, IN A SANDBOX (cutbox-rows.mjs): the forced cells as the released guide's own fill.sh prints them over the translation 83b2b2cb5555df29… (all of the seat's roots in one cut). By AI agents, Wed Nov 11 2026. No macro, syntax, notation, axiom, sorry.
-/
import Derived.Test.YtgfekidehbancaaChecked
import GoSem.Claim
import GoSem.ClaimJoined
import GoSem.ClaimMapViews
import Derived.JoinedTies
import Derived.KernelRfl
namespace Go.Proofs.Ytgfekidehbancaa
/- THE CELL 'sum', in the pinned program and in every row, IS THE sha256 OF THE DUMP (.gsa) THAT YtgfekidehbancaaProg.lean LOADS. Nothing in Lean hashes anything: it is a label: what it is worth is what the hold of that sum in a sandbox is worth. -/
noncomputable def Try.pinned : Pinned := { name := "ytgfekidehbancaa", sum := "83b2b2cb5555df2901afc988ddcc8fc765e1e77c60ac6654fa4397e9908e3a91", checked := Try.checked }
namespace Rows
def none {H : Type} : Left H := { results := [], args := [] }

/-- 'laws.FnExactPicture': WHATEVER THE INPUT: true; the input reads as it did. -/
def fnExactPictureSpec : ChangeSpec := { name := "fnExactPicture", fn := fun _ => fun
  | [d1, d2] => { results := [.lit (.bool true)], args := [d1, d2] }
  | _ => none }
def fnExactPictureRow : OpenClaim := { program := "ytgfekidehbancaa", sum := "83b2b2cb5555df2901afc988ddcc8fc765e1e77c60ac6654fa4397e9908e3a91", func := "loop.example/g00024/laws.FnExactPicture", spec := "fnExactPicture", inPlace := ["internal/abi.NoEscape", "internal/bytealg.MakeNoZero"], unfollowed := true, recurses := true, apart := false }
def FnExactPictureSaid : Prop := fnExactPictureRow.holds Try.pinned (OpenSpec.ofChange fnExactPictureSpec)

/-- ITS FALSE NEIGHBOUR: 'it returns false'. Refute it at one input. -/
def fnExactPictureWrong : ChangeSpec := { name := "fnExactPicture", fn := fun _ => fun
  | [d1, d2] => { results := [.lit (.bool false)], args := [d1, d2] }
  | _ => none }
def FnExactPictureWrongFalsely : Prop := fnExactPictureRow.holds Try.pinned (OpenSpec.ofChange fnExactPictureWrong)

/-- 'laws.FnExactTileBytes': WHATEVER THE INPUT: true; the input reads as it did. -/
def fnExactTileBytesSpec : ChangeSpec := { name := "fnExactTileBytes", fn := fun _ => fun
  | [d] => { results := [.lit (.bool true)], args := [d] }
  | _ => none }
def fnExactTileBytesRow : OpenClaim := { program := "ytgfekidehbancaa", sum := "83b2b2cb5555df2901afc988ddcc8fc765e1e77c60ac6654fa4397e9908e3a91", func := "loop.example/g00024/laws.FnExactTileBytes", spec := "fnExactTileBytes", apart := false }
def FnExactTileBytesSaid : Prop := fnExactTileBytesRow.holds Try.pinned (OpenSpec.ofChange fnExactTileBytesSpec)

/-- ITS FALSE NEIGHBOUR: 'it returns false'. Refute it at one input. -/
def fnExactTileBytesWrong : ChangeSpec := { name := "fnExactTileBytes", fn := fun _ => fun
  | [d] => { results := [.lit (.bool false)], args := [d] }
  | _ => none }
def FnExactTileBytesWrongFalsely : Prop := fnExactTileBytesRow.holds Try.pinned (OpenSpec.ofChange fnExactTileBytesWrong)

/-- 'laws.FnExactReadTile': WHATEVER THE INPUT: true; the input reads as it did. -/
def fnExactReadTileSpec : ChangeSpec := { name := "fnExactReadTile", fn := fun _ => fun
  | [d] => { results := [.lit (.bool true)], args := [d] }
  | _ => none }
def fnExactReadTileRow : OpenClaim := { program := "ytgfekidehbancaa", sum := "83b2b2cb5555df2901afc988ddcc8fc765e1e77c60ac6654fa4397e9908e3a91", func := "loop.example/g00024/laws.FnExactReadTile", spec := "fnExactReadTile", apart := false }
def FnExactReadTileSaid : Prop := fnExactReadTileRow.holds Try.pinned (OpenSpec.ofChange fnExactReadTileSpec)

/-- ITS FALSE NEIGHBOUR: 'it returns false'. Refute it at one input. -/
def fnExactReadTileWrong : ChangeSpec := { name := "fnExactReadTile", fn := fun _ => fun
  | [d] => { results := [.lit (.bool false)], args := [d] }
  | _ => none }
def FnExactReadTileWrongFalsely : Prop := fnExactReadTileRow.holds Try.pinned (OpenSpec.ofChange fnExactReadTileWrong)

/- THE SECOND FORM. 'bulk': how many values and letters a reading holds, each counted each time it is reached (what is shared counts as often as it is met; a slice's spare places count too). A statement '..UptoSaid' is the law's where the arguments, and the package variables that the reading takes, are together of bulk at most 1048576: NARROWER than '..Said'. Prove '..Said' where nothing that the law and all that it calls make is longer than what came in: it says more and counts as full. Else prove '..UptoSaid'. A law counts once. -/
mutual
def uptoBulk {H : Type} : DataW H → Nat
  | .lit (.string bytes) => bytes.length + 1
  | .lit _ => 1
  | .nil => 1
  | .ptr d => uptoBulk d + 1
  | .slice elems spare => uptoBulkAll elems + uptoBulkAll spare + 1
  | .agg parts => uptoBulkAll parts + 1
  | .iface _ d => uptoBulk d + 1
  | .map entries => uptoBulkEntries entries + 1
  | .held _ => 1
def uptoBulkAll {H : Type} : List (DataW H) → Nat
  | [] => 0
  | d :: r => uptoBulk d + uptoBulkAll r
def uptoBulkEntries {H : Type} : List (Lit × DataW H) → Nat
  | [] => 0
  | x :: r => uptoBulkEntry x + uptoBulkEntries r
def uptoBulkEntry {H : Type} : Lit × DataW H → Nat
  | (.string bytes, d) => bytes.length + uptoBulk d + 1
  | (_, d) => uptoBulk d + 1
 end
def uptoSmall : (H : Type) → List (DataW H) → Bool := fun _ ds => decide (uptoBulkAll ds ≤ 1048576)
def OpenSpec.upto (s : _root_.Go.ChangeSpec) : _root_.Go.OpenSpec := { _root_.Go.OpenSpec.ofChange s with cond := some uptoSmall }

/-- 'laws.FnExactPicture', WHERE WHAT IT READS IS OF BULK AT MOST 1048576: true; the input reads as it did. -/
def fnExactPictureUptoRow : OpenClaim := { program := "ytgfekidehbancaa", sum := "83b2b2cb5555df2901afc988ddcc8fc765e1e77c60ac6654fa4397e9908e3a91", func := "loop.example/g00024/laws.FnExactPicture", spec := "fnExactPicture", inPlace := ["internal/abi.NoEscape", "internal/bytealg.MakeNoZero"], unfollowed := true, recurses := true, apart := false, narrowed := true }
def FnExactPictureUptoSaid : Prop := fnExactPictureUptoRow.holds Try.pinned (OpenSpec.upto fnExactPictureSpec)

/-- 'laws.FnExactTileBytes', WHERE WHAT IT READS IS OF BULK AT MOST 1048576: true; the input reads as it did. -/
def fnExactTileBytesUptoRow : OpenClaim := { program := "ytgfekidehbancaa", sum := "83b2b2cb5555df2901afc988ddcc8fc765e1e77c60ac6654fa4397e9908e3a91", func := "loop.example/g00024/laws.FnExactTileBytes", spec := "fnExactTileBytes", apart := false, narrowed := true }
def FnExactTileBytesUptoSaid : Prop := fnExactTileBytesUptoRow.holds Try.pinned (OpenSpec.upto fnExactTileBytesSpec)

/-- 'laws.FnExactReadTile', WHERE WHAT IT READS IS OF BULK AT MOST 1048576: true; the input reads as it did. -/
def fnExactReadTileUptoRow : OpenClaim := { program := "ytgfekidehbancaa", sum := "83b2b2cb5555df2901afc988ddcc8fc765e1e77c60ac6654fa4397e9908e3a91", func := "loop.example/g00024/laws.FnExactReadTile", spec := "fnExactReadTile", apart := false, narrowed := true }
def FnExactReadTileUptoSaid : Prop := fnExactReadTileUptoRow.holds Try.pinned (OpenSpec.upto fnExactReadTileSpec)

end Rows
end Go.Proofs.Ytgfekidehbancaa
