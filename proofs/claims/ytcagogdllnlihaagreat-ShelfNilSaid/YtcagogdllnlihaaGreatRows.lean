/-
  No cell of these rows narrows 'for every input' (looked for: loops, veiled, ifaces, maps, wideKeys, modest, calm, conditions, laid).
  DERIVED. THE GIVEN ROWS OF THIS SEAT. 5 by the template 'for every input the law returns true; each argument reads behind the call as it read before'; 0 by the template 'total and deterministic' (their statements: YtcagogdllnlihaaGreatTotals.lean).
  GIVEN WITH THE SEED: the statements are not yours to turn. If you find one false, say at which input.
  Laid BY PROGRAM, IN A SANDBOX (cutbox-rows.mjs): the forced cells as the released guide's own fill.sh prints them over the translation 6dde97e1b4d2678d… (all of the seat's roots in one cut). By AI agents, Wed Nov 11 2026. No macro, syntax, notation, axiom, sorry.
-/
import Derived.Test.YtcagogdllnlihaaGreatChecked
import GoSem.Claim
import GoSem.ClaimJoined
import GoSem.ClaimMapViews
import Derived.JoinedTies
import Derived.KernelRfl
namespace Go.Proofs.YtcagogdllnlihaaGreat
/- THE CELL 'sum', in the pinned program and in every row, IS THE sha256 OF THE DUMP (.gsa) THAT YtcagogdllnlihaaGreatProg.lean LOADS. Nothing in Lean hashes anything: it is a label: what it is worth is what the hold of that sum in a sandbox is worth. -/
noncomputable def Tryz.pinned : Pinned := { name := "ytcagogdllnlihaagreat", sum := "6dde97e1b4d2678d7d66860080cd6a1cf032809417724a46c7fb94ffd143b59a", checked := Tryz.checked }
namespace Rows
def none {H : Type} : Left H := { results := [], args := [] }

/-- 'ashlarlaw21.BackNil': WHATEVER THE INPUT: true; the input reads as it did. -/
def backNilSpec : ChangeSpec := { name := "backNil", fn := fun _ => fun
  | [d1, d2] => { results := [.lit (.bool true)], args := [d1, d2] }
  | _ => none }
def backNilRow : OpenClaim := { program := "ytcagogdllnlihaagreat", sum := "6dde97e1b4d2678d7d66860080cd6a1cf032809417724a46c7fb94ffd143b59a", func := "ashlar/ashlarlaw21.BackNil", spec := "backNil", unfollowed := true, recurses := true, apart := false }
def BackNilSaid : Prop := backNilRow.holds Tryz.pinned (OpenSpec.ofChange backNilSpec)

/-- ITS FALSE NEIGHBOUR: 'it returns false'. Refute it at one input. -/
def backNilWrong : ChangeSpec := { name := "backNil", fn := fun _ => fun
  | [d1, d2] => { results := [.lit (.bool false)], args := [d1, d2] }
  | _ => none }
def BackNilWrongFalsely : Prop := backNilRow.holds Tryz.pinned (OpenSpec.ofChange backNilWrong)

/-- 'ashlarlaw21.BackHome': WHATEVER THE INPUT: true; the input reads as it did. -/
def backHomeSpec : ChangeSpec := { name := "backHome", fn := fun _ => fun
  | [d1, d2, d3] => { results := [.lit (.bool true)], args := [d1, d2, d3] }
  | _ => none }
def backHomeRow : OpenClaim := { program := "ytcagogdllnlihaagreat", sum := "6dde97e1b4d2678d7d66860080cd6a1cf032809417724a46c7fb94ffd143b59a", func := "ashlar/ashlarlaw21.BackHome", spec := "backHome", unfollowed := true, recurses := true, apart := false }
def BackHomeSaid : Prop := backHomeRow.holds Tryz.pinned (OpenSpec.ofChange backHomeSpec)

/-- ITS FALSE NEIGHBOUR: 'it returns false'. Refute it at one input. -/
def backHomeWrong : ChangeSpec := { name := "backHome", fn := fun _ => fun
  | [d1, d2, d3] => { results := [.lit (.bool false)], args := [d1, d2, d3] }
  | _ => none }
def BackHomeWrongFalsely : Prop := backHomeRow.holds Tryz.pinned (OpenSpec.ofChange backHomeWrong)

/-- 'ashlarlaw20.ShelfKeeps': WHATEVER THE INPUT: true; the input reads as it did. -/
def shelfKeepsSpec : ChangeSpec := { name := "shelfKeeps", fn := fun _ => fun
  | [d1, d2, d3, d4, d5] => { results := [.lit (.bool true)], args := [d1, d2, d3, d4, d5] }
  | _ => none }
def shelfKeepsRow : OpenClaim := { program := "ytcagogdllnlihaagreat", sum := "6dde97e1b4d2678d7d66860080cd6a1cf032809417724a46c7fb94ffd143b59a", func := "ashlar/ashlarlaw20.ShelfKeeps", spec := "shelfKeeps", unfollowed := true, recurses := true, apart := false }
def ShelfKeepsSaid : Prop := shelfKeepsRow.holds Tryz.pinned (OpenSpec.ofChange shelfKeepsSpec)

/-- ITS FALSE NEIGHBOUR: 'it returns false'. Refute it at one input. -/
def shelfKeepsWrong : ChangeSpec := { name := "shelfKeeps", fn := fun _ => fun
  | [d1, d2, d3, d4, d5] => { results := [.lit (.bool false)], args := [d1, d2, d3, d4, d5] }
  | _ => none }
def ShelfKeepsWrongFalsely : Prop := shelfKeepsRow.holds Tryz.pinned (OpenSpec.ofChange shelfKeepsWrong)

/-- 'ashlarlaw20.ShelfNil': WHATEVER THE INPUT: true; the input reads as it did. -/
def shelfNilSpec : ChangeSpec := { name := "shelfNil", fn := fun _ => fun
  | [d1, d2, d3] => { results := [.lit (.bool true)], args := [d1, d2, d3] }
  | _ => none }
def shelfNilRow : OpenClaim := { program := "ytcagogdllnlihaagreat", sum := "6dde97e1b4d2678d7d66860080cd6a1cf032809417724a46c7fb94ffd143b59a", func := "ashlar/ashlarlaw20.ShelfNil", spec := "shelfNil", unfollowed := true, recurses := true, apart := false }
def ShelfNilSaid : Prop := shelfNilRow.holds Tryz.pinned (OpenSpec.ofChange shelfNilSpec)

/-- ITS FALSE NEIGHBOUR: 'it returns false'. Refute it at one input. -/
def shelfNilWrong : ChangeSpec := { name := "shelfNil", fn := fun _ => fun
  | [d1, d2, d3] => { results := [.lit (.bool false)], args := [d1, d2, d3] }
  | _ => none }
def ShelfNilWrongFalsely : Prop := shelfNilRow.holds Tryz.pinned (OpenSpec.ofChange shelfNilWrong)

/-- 'ashlarlaw20.ShelfPlays': WHATEVER THE INPUT: true; the input reads as it did. -/
def shelfPlaysSpec : ChangeSpec := { name := "shelfPlays", fn := fun _ => fun
  | [d1, d2, d3] => { results := [.lit (.bool true)], args := [d1, d2, d3] }
  | _ => none }
def shelfPlaysRow : OpenClaim := { program := "ytcagogdllnlihaagreat", sum := "6dde97e1b4d2678d7d66860080cd6a1cf032809417724a46c7fb94ffd143b59a", func := "ashlar/ashlarlaw20.ShelfPlays", spec := "shelfPlays", unfollowed := true, recurses := true, apart := false }
def ShelfPlaysSaid : Prop := shelfPlaysRow.holds Tryz.pinned (OpenSpec.ofChange shelfPlaysSpec)

/-- ITS FALSE NEIGHBOUR: 'it returns false'. Refute it at one input. -/
def shelfPlaysWrong : ChangeSpec := { name := "shelfPlays", fn := fun _ => fun
  | [d1, d2, d3] => { results := [.lit (.bool false)], args := [d1, d2, d3] }
  | _ => none }
def ShelfPlaysWrongFalsely : Prop := shelfPlaysRow.holds Tryz.pinned (OpenSpec.ofChange shelfPlaysWrong)

/- THE SECOND FORM. 'bulk': how many values and letters a reading holds, each counted each time it is reached (what is shared counts as often as it is met; a slice's spare places count too). A statement '..UptoSaid' is the law's where the arguments, and the package variables that the reading takes, are together of bulk at most 1048576: NARROWER than '..Said'. Prove '..Said' where nothing that the law and all that it calls make is longer than what came in: it says more and counts as full. Else prove '..UptoSaid'. A law counts once. -/
mutual
def uptoBulk {H : Type} : DataW H → Nat
  | .lit (.string bytes) => bytes.length + 1
  | .lit _ => 1
  | .nil => 1
  | .ptr d => uptoBulk d + 1
  | .slice elems spare => uptoBulkAll elems + uptoBulkAll spare + 1
  | .agg parts => uptoBulkAll parts + 1
  | .iface _ d => uptoBulk d + 1
  | .map entries => uptoBulkEntries entries + 1
  | .held _ => 1
def uptoBulkAll {H : Type} : List (DataW H) → Nat
  | [] => 0
  | d :: r => uptoBulk d + uptoBulkAll r
def uptoBulkEntries {H : Type} : List (Lit × DataW H) → Nat
  | [] => 0
  | x :: r => uptoBulkEntry x + uptoBulkEntries r
def uptoBulkEntry {H : Type} : Lit × DataW H → Nat
  | (.string bytes, d) => bytes.length + uptoBulk d + 1
  | (_, d) => uptoBulk d + 1
 end
def uptoSmall : (H : Type) → List (DataW H) → Bool := fun _ ds => decide (uptoBulkAll ds ≤ 1048576)
def OpenSpec.upto (s : _root_.Go.ChangeSpec) : _root_.Go.OpenSpec := { _root_.Go.OpenSpec.ofChange s with cond := some uptoSmall }

/-- 'ashlarlaw21.BackNil', WHERE WHAT IT READS IS OF BULK AT MOST 1048576: true; the input reads as it did. -/
def backNilUptoRow : OpenClaim := { program := "ytcagogdllnlihaagreat", sum := "6dde97e1b4d2678d7d66860080cd6a1cf032809417724a46c7fb94ffd143b59a", func := "ashlar/ashlarlaw21.BackNil", spec := "backNil", unfollowed := true, recurses := true, apart := false, narrowed := true }
def BackNilUptoSaid : Prop := backNilUptoRow.holds Tryz.pinned (OpenSpec.upto backNilSpec)

/-- 'ashlarlaw21.BackHome', WHERE WHAT IT READS IS OF BULK AT MOST 1048576: true; the input reads as it did. -/
def backHomeUptoRow : OpenClaim := { program := "ytcagogdllnlihaagreat", sum := "6dde97e1b4d2678d7d66860080cd6a1cf032809417724a46c7fb94ffd143b59a", func := "ashlar/ashlarlaw21.BackHome", spec := "backHome", unfollowed := true, recurses := true, apart := false, narrowed := true }
def BackHomeUptoSaid : Prop := backHomeUptoRow.holds Tryz.pinned (OpenSpec.upto backHomeSpec)

/-- 'ashlarlaw20.ShelfKeeps', WHERE WHAT IT READS IS OF BULK AT MOST 1048576: true; the input reads as it did. -/
def shelfKeepsUptoRow : OpenClaim := { program := "ytcagogdllnlihaagreat", sum := "6dde97e1b4d2678d7d66860080cd6a1cf032809417724a46c7fb94ffd143b59a", func := "ashlar/ashlarlaw20.ShelfKeeps", spec := "shelfKeeps", unfollowed := true, recurses := true, apart := false, narrowed := true }
def ShelfKeepsUptoSaid : Prop := shelfKeepsUptoRow.holds Tryz.pinned (OpenSpec.upto shelfKeepsSpec)

/-- 'ashlarlaw20.ShelfNil', WHERE WHAT IT READS IS OF BULK AT MOST 1048576: true; the input reads as it did. -/
def shelfNilUptoRow : OpenClaim := { program := "ytcagogdllnlihaagreat", sum := "6dde97e1b4d2678d7d66860080cd6a1cf032809417724a46c7fb94ffd143b59a", func := "ashlar/ashlarlaw20.ShelfNil", spec := "shelfNil", unfollowed := true, recurses := true, apart := false, narrowed := true }
def ShelfNilUptoSaid : Prop := shelfNilUptoRow.holds Tryz.pinned (OpenSpec.upto shelfNilSpec)

/-- 'ashlarlaw20.ShelfPlays', WHERE WHAT IT READS IS OF BULK AT MOST 1048576: true; the input reads as it did. -/
def shelfPlaysUptoRow : OpenClaim := { program := "ytcagogdllnlihaagreat", sum := "6dde97e1b4d2678d7d66860080cd6a1cf032809417724a46c7fb94ffd143b59a", func := "ashlar/ashlarlaw20.ShelfPlays", spec := "shelfPlays", unfollowed := true, recurses := true, apart := false, narrowed := true }
def ShelfPlaysUptoSaid : Prop := shelfPlaysUptoRow.holds Tryz.pinned (OpenSpec.upto shelfPlaysSpec)

end Rows
end Go.Proofs.YtcagogdllnlihaaGreat
