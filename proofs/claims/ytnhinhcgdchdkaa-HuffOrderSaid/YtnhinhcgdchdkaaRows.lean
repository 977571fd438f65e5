/-
  No cell of these rows narrows 'for every input' (looked for: loops, veiled, ifaces, maps, wideKeys, modest, calm, conditions, laid).
  DERIVED. THE GIVEN ROWS OF THIS SEAT. 11 by the template 'for every input the law returns true; each argument reads behind the call as it read before'; 0 by the template 'total and deterministic' (their statements: YtnhinhcgdchdkaaTotals.lean).
  GIVEN WITH THE SEED: the statements are not yours to turn. If you find one false, say at which input.
  Laid BY PROGRAM, IN A SANDBOX (cutbox-rows.mjs): the forced cells as the released guide's own fill.sh prints them over the translation eadb99d9cfbe7465… (all of the seat's roots in one cut). By AI agents, Wed Nov 11 2026. No macro, syntax, notation, axiom, sorry.
-/
import Derived.Test.YtnhinhcgdchdkaaChecked
import GoSem.Claim
import GoSem.ClaimJoined
import GoSem.ClaimMapViews
import Derived.JoinedTies
import Derived.KernelRfl
namespace Go.Proofs.Ytnhinhcgdchdkaa
/- THE CELL 'sum', in the pinned program and in every row, IS THE sha256 OF THE DUMP (.gsa) THAT YtnhinhcgdchdkaaProg.lean LOADS. Nothing in Lean hashes anything: it is a label: what it is worth is what the hold of that sum in a sandbox is worth. -/
noncomputable def Try.pinned : Pinned := { name := "ytnhinhcgdchdkaa", sum := "eadb99d9cfbe746566648750a215d190f18b4100eec0ce42593af67ba1c40a67", checked := Try.checked }
namespace Rows
def none {H : Type} : Left H := { results := [], args := [] }

/-- 'vignettelaw06.HuffLengths': WHATEVER THE INPUT: true; the input reads as it did. -/
def huffLengthsSpec : ChangeSpec := { name := "huffLengths", fn := fun _ => fun
  | [d1, d2] => { results := [.lit (.bool true)], args := [d1, d2] }
  | _ => none }
def huffLengthsRow : OpenClaim := { program := "ytnhinhcgdchdkaa", sum := "eadb99d9cfbe746566648750a215d190f18b4100eec0ce42593af67ba1c40a67", func := "vignette/vignettelaw06.HuffLengths", spec := "huffLengths", unfollowed := true, recurses := true, plainKeys := false, apart := false }
def HuffLengthsSaid : Prop := huffLengthsRow.holds Try.pinned (OpenSpec.ofChange huffLengthsSpec)

/-- ITS FALSE NEIGHBOUR: 'it returns false'. Refute it at one input. -/
def huffLengthsWrong : ChangeSpec := { name := "huffLengths", fn := fun _ => fun
  | [d1, d2] => { results := [.lit (.bool false)], args := [d1, d2] }
  | _ => none }
def HuffLengthsWrongFalsely : Prop := huffLengthsRow.holds Try.pinned (OpenSpec.ofChange huffLengthsWrong)

/-- 'vignettelaw06.HuffBest': WHATEVER THE INPUT: true; the input reads as it did. -/
def huffBestSpec : ChangeSpec := { name := "huffBest", fn := fun _ => fun
  | [d1, d2] => { results := [.lit (.bool true)], args := [d1, d2] }
  | _ => none }
def huffBestRow : OpenClaim := { program := "ytnhinhcgdchdkaa", sum := "eadb99d9cfbe746566648750a215d190f18b4100eec0ce42593af67ba1c40a67", func := "vignette/vignettelaw06.HuffBest", spec := "huffBest", unfollowed := true, recurses := true, plainKeys := false, apart := false }
def HuffBestSaid : Prop := huffBestRow.holds Try.pinned (OpenSpec.ofChange huffBestSpec)

/-- ITS FALSE NEIGHBOUR: 'it returns false'. Refute it at one input. -/
def huffBestWrong : ChangeSpec := { name := "huffBest", fn := fun _ => fun
  | [d1, d2] => { results := [.lit (.bool false)], args := [d1, d2] }
  | _ => none }
def HuffBestWrongFalsely : Prop := huffBestRow.holds Try.pinned (OpenSpec.ofChange huffBestWrong)

/-- 'vignettelaw06.HuffOrder': WHATEVER THE INPUT: true; the input reads as it did. -/
def huffOrderSpec : ChangeSpec := { name := "huffOrder", fn := fun _ => fun
  | [d1, d2] => { results := [.lit (.bool true)], args := [d1, d2] }
  | _ => none }
def huffOrderRow : OpenClaim := { program := "ytnhinhcgdchdkaa", sum := "eadb99d9cfbe746566648750a215d190f18b4100eec0ce42593af67ba1c40a67", func := "vignette/vignettelaw06.HuffOrder", spec := "huffOrder", unfollowed := true, recurses := true, plainKeys := false, apart := false }
def HuffOrderSaid : Prop := huffOrderRow.holds Try.pinned (OpenSpec.ofChange huffOrderSpec)

/-- ITS FALSE NEIGHBOUR: 'it returns false'. Refute it at one input. -/
def huffOrderWrong : ChangeSpec := { name := "huffOrder", fn := fun _ => fun
  | [d1, d2] => { results := [.lit (.bool false)], args := [d1, d2] }
  | _ => none }
def HuffOrderWrongFalsely : Prop := huffOrderRow.holds Try.pinned (OpenSpec.ofChange huffOrderWrong)

/-- 'vignettelaw06.HuffReads': WHATEVER THE INPUT: true; the input reads as it did. -/
def huffReadsSpec : ChangeSpec := { name := "huffReads", fn := fun _ => fun
  | [d1, d2, d3] => { results := [.lit (.bool true)], args := [d1, d2, d3] }
  | _ => none }
def huffReadsRow : OpenClaim := { program := "ytnhinhcgdchdkaa", sum := "eadb99d9cfbe746566648750a215d190f18b4100eec0ce42593af67ba1c40a67", func := "vignette/vignettelaw06.HuffReads", spec := "huffReads", unfollowed := true, recurses := true, plainKeys := false, apart := false }
def HuffReadsSaid : Prop := huffReadsRow.holds Try.pinned (OpenSpec.ofChange huffReadsSpec)

/-- ITS FALSE NEIGHBOUR: 'it returns false'. Refute it at one input. -/
def huffReadsWrong : ChangeSpec := { name := "huffReads", fn := fun _ => fun
  | [d1, d2, d3] => { results := [.lit (.bool false)], args := [d1, d2, d3] }
  | _ => none }
def HuffReadsWrongFalsely : Prop := huffReadsRow.holds Try.pinned (OpenSpec.ofChange huffReadsWrong)

/-- 'vignettelaw06.HuffKnown': WHATEVER THE INPUT: true; the input reads as it did. -/
def huffKnownSpec : ChangeSpec := { name := "huffKnown", fn := fun _ => fun
  | [] => { results := [.lit (.bool true)], args := [] }
  | _ => none }
def huffKnownRow : OpenClaim := { program := "ytnhinhcgdchdkaa", sum := "eadb99d9cfbe746566648750a215d190f18b4100eec0ce42593af67ba1c40a67", func := "vignette/vignettelaw06.HuffKnown", spec := "huffKnown", unfollowed := true, recurses := true, plainKeys := false, apart := false }
def HuffKnownSaid : Prop := huffKnownRow.holds Try.pinned (OpenSpec.ofChange huffKnownSpec)

/-- ITS FALSE NEIGHBOUR: 'it returns false'. Refute it at one input. -/
def huffKnownWrong : ChangeSpec := { name := "huffKnown", fn := fun _ => fun
  | [] => { results := [.lit (.bool false)], args := [] }
  | _ => none }
def HuffKnownWrongFalsely : Prop := huffKnownRow.holds Try.pinned (OpenSpec.ofChange huffKnownWrong)

/-- 'vignettelaw06.HuffBack': WHATEVER THE INPUT: true; the input reads as it did. -/
def huffBackSpec : ChangeSpec := { name := "huffBack", fn := fun _ => fun
  | [d1, d2, d3] => { results := [.lit (.bool true)], args := [d1, d2, d3] }
  | _ => none }
def huffBackRow : OpenClaim := { program := "ytnhinhcgdchdkaa", sum := "eadb99d9cfbe746566648750a215d190f18b4100eec0ce42593af67ba1c40a67", func := "vignette/vignettelaw06.HuffBack", spec := "huffBack", unfollowed := true, recurses := true, plainKeys := false, apart := false }
def HuffBackSaid : Prop := huffBackRow.holds Try.pinned (OpenSpec.ofChange huffBackSpec)

/-- ITS FALSE NEIGHBOUR: 'it returns false'. Refute it at one input. -/
def huffBackWrong : ChangeSpec := { name := "huffBack", fn := fun _ => fun
  | [d1, d2, d3] => { results := [.lit (.bool false)], args := [d1, d2, d3] }
  | _ => none }
def HuffBackWrongFalsely : Prop := huffBackRow.holds Try.pinned (OpenSpec.ofChange huffBackWrong)

/-- 'vignettelaw08.InflateEnds': WHATEVER THE INPUT: true; the input reads as it did. -/
def inflateEndsSpec : ChangeSpec := { name := "inflateEnds", fn := fun _ => fun
  | [d1, d2, d3] => { results := [.lit (.bool true)], args := [d1, d2, d3] }
  | _ => none }
def inflateEndsRow : OpenClaim := { program := "ytnhinhcgdchdkaa", sum := "eadb99d9cfbe746566648750a215d190f18b4100eec0ce42593af67ba1c40a67", func := "vignette/vignettelaw08.InflateEnds", spec := "inflateEnds", unfollowed := true, recurses := true, plainKeys := false, apart := false }
def InflateEndsSaid : Prop := inflateEndsRow.holds Try.pinned (OpenSpec.ofChange inflateEndsSpec)

/-- ITS FALSE NEIGHBOUR: 'it returns false'. Refute it at one input. -/
def inflateEndsWrong : ChangeSpec := { name := "inflateEnds", fn := fun _ => fun
  | [d1, d2, d3] => { results := [.lit (.bool false)], args := [d1, d2, d3] }
  | _ => none }
def InflateEndsWrongFalsely : Prop := inflateEndsRow.holds Try.pinned (OpenSpec.ofChange inflateEndsWrong)

/-- 'vignettelaw08.InflateAhead': WHATEVER THE INPUT: true; the input reads as it did. -/
def inflateAheadSpec : ChangeSpec := { name := "inflateAhead", fn := fun _ => fun
  | [d1, d2] => { results := [.lit (.bool true)], args := [d1, d2] }
  | _ => none }
def inflateAheadRow : OpenClaim := { program := "ytnhinhcgdchdkaa", sum := "eadb99d9cfbe746566648750a215d190f18b4100eec0ce42593af67ba1c40a67", func := "vignette/vignettelaw08.InflateAhead", spec := "inflateAhead", unfollowed := true, recurses := true, plainKeys := false, apart := false }
def InflateAheadSaid : Prop := inflateAheadRow.holds Try.pinned (OpenSpec.ofChange inflateAheadSpec)

/-- ITS FALSE NEIGHBOUR: 'it returns false'. Refute it at one input. -/
def inflateAheadWrong : ChangeSpec := { name := "inflateAhead", fn := fun _ => fun
  | [d1, d2] => { results := [.lit (.bool false)], args := [d1, d2] }
  | _ => none }
def InflateAheadWrongFalsely : Prop := inflateAheadRow.holds Try.pinned (OpenSpec.ofChange inflateAheadWrong)

/-- 'vignettelaw08.InflateKnown': WHATEVER THE INPUT: true; the input reads as it did. -/
def inflateKnownSpec : ChangeSpec := { name := "inflateKnown", fn := fun _ => fun
  | [] => { results := [.lit (.bool true)], args := [] }
  | _ => none }
def inflateKnownRow : OpenClaim := { program := "ytnhinhcgdchdkaa", sum := "eadb99d9cfbe746566648750a215d190f18b4100eec0ce42593af67ba1c40a67", func := "vignette/vignettelaw08.InflateKnown", spec := "inflateKnown", unfollowed := true, recurses := true, plainKeys := false, apart := false }
def InflateKnownSaid : Prop := inflateKnownRow.holds Try.pinned (OpenSpec.ofChange inflateKnownSpec)

/-- ITS FALSE NEIGHBOUR: 'it returns false'. Refute it at one input. -/
def inflateKnownWrong : ChangeSpec := { name := "inflateKnown", fn := fun _ => fun
  | [] => { results := [.lit (.bool false)], args := [] }
  | _ => none }
def InflateKnownWrongFalsely : Prop := inflateKnownRow.holds Try.pinned (OpenSpec.ofChange inflateKnownWrong)

/-- 'vignettelaw08.InflateLaid': WHATEVER THE INPUT: true; the input reads as it did. -/
def inflateLaidSpec : ChangeSpec := { name := "inflateLaid", fn := fun _ => fun
  | [d1, d2] => { results := [.lit (.bool true)], args := [d1, d2] }
  | _ => none }
def inflateLaidRow : OpenClaim := { program := "ytnhinhcgdchdkaa", sum := "eadb99d9cfbe746566648750a215d190f18b4100eec0ce42593af67ba1c40a67", func := "vignette/vignettelaw08.InflateLaid", spec := "inflateLaid", unfollowed := true, recurses := true, plainKeys := false, apart := false }
def InflateLaidSaid : Prop := inflateLaidRow.holds Try.pinned (OpenSpec.ofChange inflateLaidSpec)

/-- ITS FALSE NEIGHBOUR: 'it returns false'. Refute it at one input. -/
def inflateLaidWrong : ChangeSpec := { name := "inflateLaid", fn := fun _ => fun
  | [d1, d2] => { results := [.lit (.bool false)], args := [d1, d2] }
  | _ => none }
def InflateLaidWrongFalsely : Prop := inflateLaidRow.holds Try.pinned (OpenSpec.ofChange inflateLaidWrong)

/-- 'vignettelaw09.DeflateReads': WHATEVER THE INPUT: true; the input reads as it did. -/
def deflateReadsSpec : ChangeSpec := { name := "deflateReads", fn := fun _ => fun
  | [d] => { results := [.lit (.bool true)], args := [d] }
  | _ => none }
def deflateReadsRow : OpenClaim := { program := "ytnhinhcgdchdkaa", sum := "eadb99d9cfbe746566648750a215d190f18b4100eec0ce42593af67ba1c40a67", func := "vignette/vignettelaw09.DeflateReads", spec := "deflateReads", unfollowed := true, recurses := true, plainKeys := false, apart := false }
def DeflateReadsSaid : Prop := deflateReadsRow.holds Try.pinned (OpenSpec.ofChange deflateReadsSpec)

/-- ITS FALSE NEIGHBOUR: 'it returns false'. Refute it at one input. -/
def deflateReadsWrong : ChangeSpec := { name := "deflateReads", fn := fun _ => fun
  | [d] => { results := [.lit (.bool false)], args := [d] }
  | _ => none }
def DeflateReadsWrongFalsely : Prop := deflateReadsRow.holds Try.pinned (OpenSpec.ofChange deflateReadsWrong)

/- THE SECOND FORM. 'bulk': how many values and letters a reading holds, each counted each time it is reached (what is shared counts as often as it is met; a slice's spare places count too). A statement '..UptoSaid' is the law's where the arguments, and the package variables that the reading takes, are together of bulk at most 1048576: NARROWER than '..Said'. Prove '..Said' where nothing that the law and all that it calls make is longer than what came in: it says more and counts as full. Else prove '..UptoSaid'. A law counts once. -/
mutual
def uptoBulk {H : Type} : DataW H → Nat
  | .lit (.string bytes) => bytes.length + 1
  | .lit _ => 1
  | .nil => 1
  | .ptr d => uptoBulk d + 1
  | .slice elems spare => uptoBulkAll elems + uptoBulkAll spare + 1
  | .agg parts => uptoBulkAll parts + 1
  | .iface _ d => uptoBulk d + 1
  | .map entries => uptoBulkEntries entries + 1
  | .held _ => 1
def uptoBulkAll {H : Type} : List (DataW H) → Nat
  | [] => 0
  | d :: r => uptoBulk d + uptoBulkAll r
def uptoBulkEntries {H : Type} : List (Lit × DataW H) → Nat
  | [] => 0
  | x :: r => uptoBulkEntry x + uptoBulkEntries r
def uptoBulkEntry {H : Type} : Lit × DataW H → Nat
  | (.string bytes, d) => bytes.length + uptoBulk d + 1
  | (_, d) => uptoBulk d + 1
 end
def uptoSmall : (H : Type) → List (DataW H) → Bool := fun _ ds => decide (uptoBulkAll ds ≤ 1048576)
def OpenSpec.upto (s : _root_.Go.ChangeSpec) : _root_.Go.OpenSpec := { _root_.Go.OpenSpec.ofChange s with cond := some uptoSmall }

/-- 'vignettelaw06.HuffLengths', WHERE WHAT IT READS IS OF BULK AT MOST 1048576: true; the input reads as it did. -/
def huffLengthsUptoRow : OpenClaim := { program := "ytnhinhcgdchdkaa", sum := "eadb99d9cfbe746566648750a215d190f18b4100eec0ce42593af67ba1c40a67", func := "vignette/vignettelaw06.HuffLengths", spec := "huffLengths", unfollowed := true, recurses := true, plainKeys := false, apart := false, narrowed := true }
def HuffLengthsUptoSaid : Prop := huffLengthsUptoRow.holds Try.pinned (OpenSpec.upto huffLengthsSpec)

/-- 'vignettelaw06.HuffBest', WHERE WHAT IT READS IS OF BULK AT MOST 1048576: true; the input reads as it did. -/
def huffBestUptoRow : OpenClaim := { program := "ytnhinhcgdchdkaa", sum := "eadb99d9cfbe746566648750a215d190f18b4100eec0ce42593af67ba1c40a67", func := "vignette/vignettelaw06.HuffBest", spec := "huffBest", unfollowed := true, recurses := true, plainKeys := false, apart := false, narrowed := true }
def HuffBestUptoSaid : Prop := huffBestUptoRow.holds Try.pinned (OpenSpec.upto huffBestSpec)

/-- 'vignettelaw06.HuffOrder', WHERE WHAT IT READS IS OF BULK AT MOST 1048576: true; the input reads as it did. -/
def huffOrderUptoRow : OpenClaim := { program := "ytnhinhcgdchdkaa", sum := "eadb99d9cfbe746566648750a215d190f18b4100eec0ce42593af67ba1c40a67", func := "vignette/vignettelaw06.HuffOrder", spec := "huffOrder", unfollowed := true, recurses := true, plainKeys := false, apart := false, narrowed := true }
def HuffOrderUptoSaid : Prop := huffOrderUptoRow.holds Try.pinned (OpenSpec.upto huffOrderSpec)

/-- 'vignettelaw06.HuffReads', WHERE WHAT IT READS IS OF BULK AT MOST 1048576: true; the input reads as it did. -/
def huffReadsUptoRow : OpenClaim := { program := "ytnhinhcgdchdkaa", sum := "eadb99d9cfbe746566648750a215d190f18b4100eec0ce42593af67ba1c40a67", func := "vignette/vignettelaw06.HuffReads", spec := "huffReads", unfollowed := true, recurses := true, plainKeys := false, apart := false, narrowed := true }
def HuffReadsUptoSaid : Prop := huffReadsUptoRow.holds Try.pinned (OpenSpec.upto huffReadsSpec)

/-- 'vignettelaw06.HuffKnown', WHERE WHAT IT READS IS OF BULK AT MOST 1048576: true; the input reads as it did. -/
def huffKnownUptoRow : OpenClaim := { program := "ytnhinhcgdchdkaa", sum := "eadb99d9cfbe746566648750a215d190f18b4100eec0ce42593af67ba1c40a67", func := "vignette/vignettelaw06.HuffKnown", spec := "huffKnown", unfollowed := true, recurses := true, plainKeys := false, apart := false, narrowed := true }
def HuffKnownUptoSaid : Prop := huffKnownUptoRow.holds Try.pinned (OpenSpec.upto huffKnownSpec)

/-- 'vignettelaw06.HuffBack', WHERE WHAT IT READS IS OF BULK AT MOST 1048576: true; the input reads as it did. -/
def huffBackUptoRow : OpenClaim := { program := "ytnhinhcgdchdkaa", sum := "eadb99d9cfbe746566648750a215d190f18b4100eec0ce42593af67ba1c40a67", func := "vignette/vignettelaw06.HuffBack", spec := "huffBack", unfollowed := true, recurses := true, plainKeys := false, apart := false, narrowed := true }
def HuffBackUptoSaid : Prop := huffBackUptoRow.holds Try.pinned (OpenSpec.upto huffBackSpec)

/-- 'vignettelaw08.InflateEnds', WHERE WHAT IT READS IS OF BULK AT MOST 1048576: true; the input reads as it did. -/
def inflateEndsUptoRow : OpenClaim := { program := "ytnhinhcgdchdkaa", sum := "eadb99d9cfbe746566648750a215d190f18b4100eec0ce42593af67ba1c40a67", func := "vignette/vignettelaw08.InflateEnds", spec := "inflateEnds", unfollowed := true, recurses := true, plainKeys := false, apart := false, narrowed := true }
def InflateEndsUptoSaid : Prop := inflateEndsUptoRow.holds Try.pinned (OpenSpec.upto inflateEndsSpec)

/-- 'vignettelaw08.InflateAhead', WHERE WHAT IT READS IS OF BULK AT MOST 1048576: true; the input reads as it did. -/
def inflateAheadUptoRow : OpenClaim := { program := "ytnhinhcgdchdkaa", sum := "eadb99d9cfbe746566648750a215d190f18b4100eec0ce42593af67ba1c40a67", func := "vignette/vignettelaw08.InflateAhead", spec := "inflateAhead", unfollowed := true, recurses := true, plainKeys := false, apart := false, narrowed := true }
def InflateAheadUptoSaid : Prop := inflateAheadUptoRow.holds Try.pinned (OpenSpec.upto inflateAheadSpec)

/-- 'vignettelaw08.InflateKnown', WHERE WHAT IT READS IS OF BULK AT MOST 1048576: true; the input reads as it did. -/
def inflateKnownUptoRow : OpenClaim := { program := "ytnhinhcgdchdkaa", sum := "eadb99d9cfbe746566648750a215d190f18b4100eec0ce42593af67ba1c40a67", func := "vignette/vignettelaw08.InflateKnown", spec := "inflateKnown", unfollowed := true, recurses := true, plainKeys := false, apart := false, narrowed := true }
def InflateKnownUptoSaid : Prop := inflateKnownUptoRow.holds Try.pinned (OpenSpec.upto inflateKnownSpec)

/-- 'vignettelaw08.InflateLaid', WHERE WHAT IT READS IS OF BULK AT MOST 1048576: true; the input reads as it did. -/
def inflateLaidUptoRow : OpenClaim := { program := "ytnhinhcgdchdkaa", sum := "eadb99d9cfbe746566648750a215d190f18b4100eec0ce42593af67ba1c40a67", func := "vignette/vignettelaw08.InflateLaid", spec := "inflateLaid", unfollowed := true, recurses := true, plainKeys := false, apart := false, narrowed := true }
def InflateLaidUptoSaid : Prop := inflateLaidUptoRow.holds Try.pinned (OpenSpec.upto inflateLaidSpec)

/-- 'vignettelaw09.DeflateReads', WHERE WHAT IT READS IS OF BULK AT MOST 1048576: true; the input reads as it did. -/
def deflateReadsUptoRow : OpenClaim := { program := "ytnhinhcgdchdkaa", sum := "eadb99d9cfbe746566648750a215d190f18b4100eec0ce42593af67ba1c40a67", func := "vignette/vignettelaw09.DeflateReads", spec := "deflateReads", unfollowed := true, recurses := true, plainKeys := false, apart := false, narrowed := true }
def DeflateReadsUptoSaid : Prop := deflateReadsUptoRow.holds Try.pinned (OpenSpec.upto deflateReadsSpec)

end Rows
end Go.Proofs.Ytnhinhcgdchdkaa
