/-
  No cell of these rows narrows 'for every input' (looked for: loops, veiled, ifaces, maps, wideKeys, modest, calm, conditions, laid).
  DERIVED. THE GIVEN ROWS OF THIS SEAT. 18 by the template 'for every input the law returns true; each argument reads behind the call as it read before'; 0 by the template 'total and deterministic' (their statements: YtmhbkilpllgchaaTotals.lean).
  GIVEN WITH THE SEED: the statements are not yours to turn. If you find one false, say at which input.
  Laid BY PROGRAM, IN A SANDBOX (cutbox-rows.mjs): the forced cells as the released guide's own fill.sh prints them over the translation f52f8112f1d57306… (all of the seat's roots in one cut). By AI agents, Wed Nov 11 2026. No macro, syntax, notation, axiom, sorry.
-/
import Derived.Test.YtmhbkilpllgchaaChecked
import GoSem.Claim
import GoSem.ClaimJoined
import GoSem.ClaimMapViews
import Derived.JoinedTies
import Derived.KernelRfl
namespace Go.Proofs.Ytmhbkilpllgchaa
/- THE CELL 'sum', in the pinned program and in every row, IS THE sha256 OF THE DUMP (.gsa) THAT YtmhbkilpllgchaaProg.lean LOADS. Nothing in Lean hashes anything: it is a label: what it is worth is what the hold of that sum in a sandbox is worth. -/
noncomputable def Try.pinned : Pinned := { name := "ytmhbkilpllgchaa", sum := "f52f8112f1d573062f20b80d3e7da2b8028a275a8327812adde1d840556f7a59", checked := Try.checked }
namespace Rows
def none {H : Type} : Left H := { results := [], args := [] }

/-- 'almonrylaw0.AlmonryNames': WHATEVER THE INPUT: true; the input reads as it did. -/
def almonryNamesSpec : ChangeSpec := { name := "almonryNames", fn := fun _ => fun
  | [] => { results := [.lit (.bool true)], args := [] }
  | _ => none }
def almonryNamesRow : OpenClaim := { program := "ytmhbkilpllgchaa", sum := "f52f8112f1d573062f20b80d3e7da2b8028a275a8327812adde1d840556f7a59", func := "almonry/almonrylaw0.AlmonryNames", spec := "almonryNames", plainKeys := false, apart := false }
def AlmonryNamesSaid : Prop := almonryNamesRow.holds Try.pinned (OpenSpec.ofChange almonryNamesSpec)

/-- ITS FALSE NEIGHBOUR: 'it returns false'. Refute it at one input. -/
def almonryNamesWrong : ChangeSpec := { name := "almonryNames", fn := fun _ => fun
  | [] => { results := [.lit (.bool false)], args := [] }
  | _ => none }
def AlmonryNamesWrongFalsely : Prop := almonryNamesRow.holds Try.pinned (OpenSpec.ofChange almonryNamesWrong)

/-- 'almonrylaw1.Shas': WHATEVER THE INPUT: true; the input reads as it did. -/
def shasSpec : ChangeSpec := { name := "shas", fn := fun _ => fun
  | [d1, d2] => { results := [.lit (.bool true)], args := [d1, d2] }
  | _ => none }
def shasRow : OpenClaim := { program := "ytmhbkilpllgchaa", sum := "f52f8112f1d573062f20b80d3e7da2b8028a275a8327812adde1d840556f7a59", func := "almonry/almonrylaw1.Shas", spec := "shas", plainKeys := false, apart := false }
def ShasSaid : Prop := shasRow.holds Try.pinned (OpenSpec.ofChange shasSpec)

/-- ITS FALSE NEIGHBOUR: 'it returns false'. Refute it at one input. -/
def shasWrong : ChangeSpec := { name := "shas", fn := fun _ => fun
  | [d1, d2] => { results := [.lit (.bool false)], args := [d1, d2] }
  | _ => none }
def ShasWrongFalsely : Prop := shasRow.holds Try.pinned (OpenSpec.ofChange shasWrong)

/-- 'almonrylaw1.ShaParts': WHATEVER THE INPUT: true; the input reads as it did. -/
def shaPartsSpec : ChangeSpec := { name := "shaParts", fn := fun _ => fun
  | [d1, d2] => { results := [.lit (.bool true)], args := [d1, d2] }
  | _ => none }
def shaPartsRow : OpenClaim := { program := "ytmhbkilpllgchaa", sum := "f52f8112f1d573062f20b80d3e7da2b8028a275a8327812adde1d840556f7a59", func := "almonry/almonrylaw1.ShaParts", spec := "shaParts", plainKeys := false, apart := false }
def ShaPartsSaid : Prop := shaPartsRow.holds Try.pinned (OpenSpec.ofChange shaPartsSpec)

/-- ITS FALSE NEIGHBOUR: 'it returns false'. Refute it at one input. -/
def shaPartsWrong : ChangeSpec := { name := "shaParts", fn := fun _ => fun
  | [d1, d2] => { results := [.lit (.bool false)], args := [d1, d2] }
  | _ => none }
def ShaPartsWrongFalsely : Prop := shaPartsRow.holds Try.pinned (OpenSpec.ofChange shaPartsWrong)

/-- 'almonrylaw1.ShaKnown': WHATEVER THE INPUT: true; the input reads as it did. -/
def shaKnownSpec : ChangeSpec := { name := "shaKnown", fn := fun _ => fun
  | [] => { results := [.lit (.bool true)], args := [] }
  | _ => none }
def shaKnownRow : OpenClaim := { program := "ytmhbkilpllgchaa", sum := "f52f8112f1d573062f20b80d3e7da2b8028a275a8327812adde1d840556f7a59", func := "almonry/almonrylaw1.ShaKnown", spec := "shaKnown", plainKeys := false, apart := false }
def ShaKnownSaid : Prop := shaKnownRow.holds Try.pinned (OpenSpec.ofChange shaKnownSpec)

/-- ITS FALSE NEIGHBOUR: 'it returns false'. Refute it at one input. -/
def shaKnownWrong : ChangeSpec := { name := "shaKnown", fn := fun _ => fun
  | [] => { results := [.lit (.bool false)], args := [] }
  | _ => none }
def ShaKnownWrongFalsely : Prop := shaKnownRow.holds Try.pinned (OpenSpec.ofChange shaKnownWrong)

/-- 'almonrylaw1.ShaTwins': WHATEVER THE INPUT: true; the input reads as it did. -/
def shaTwinsSpec : ChangeSpec := { name := "shaTwins", fn := fun _ => fun
  | [d1, d2, d3] => { results := [.lit (.bool true)], args := [d1, d2, d3] }
  | _ => none }
def shaTwinsRow : OpenClaim := { program := "ytmhbkilpllgchaa", sum := "f52f8112f1d573062f20b80d3e7da2b8028a275a8327812adde1d840556f7a59", func := "almonry/almonrylaw1.ShaTwins", spec := "shaTwins", plainKeys := false, apart := false }
def ShaTwinsSaid : Prop := shaTwinsRow.holds Try.pinned (OpenSpec.ofChange shaTwinsSpec)

/-- ITS FALSE NEIGHBOUR: 'it returns false'. Refute it at one input. -/
def shaTwinsWrong : ChangeSpec := { name := "shaTwins", fn := fun _ => fun
  | [d1, d2, d3] => { results := [.lit (.bool false)], args := [d1, d2, d3] }
  | _ => none }
def ShaTwinsWrongFalsely : Prop := shaTwinsRow.holds Try.pinned (OpenSpec.ofChange shaTwinsWrong)

/-- 'almonrylaw2.Tags': WHATEVER THE INPUT: true; the input reads as it did. -/
def tagsSpec : ChangeSpec := { name := "tags", fn := fun _ => fun
  | [d1, d2] => { results := [.lit (.bool true)], args := [d1, d2] }
  | _ => none }
def tagsRow : OpenClaim := { program := "ytmhbkilpllgchaa", sum := "f52f8112f1d573062f20b80d3e7da2b8028a275a8327812adde1d840556f7a59", func := "almonry/almonrylaw2.Tags", spec := "tags", unfollowed := true, recurses := true, plainKeys := false, apart := false }
def TagsSaid : Prop := tagsRow.holds Try.pinned (OpenSpec.ofChange tagsSpec)

/-- ITS FALSE NEIGHBOUR: 'it returns false'. Refute it at one input. -/
def tagsWrong : ChangeSpec := { name := "tags", fn := fun _ => fun
  | [d1, d2] => { results := [.lit (.bool false)], args := [d1, d2] }
  | _ => none }
def TagsWrongFalsely : Prop := tagsRow.holds Try.pinned (OpenSpec.ofChange tagsWrong)

/-- 'almonrylaw2.TagForms': WHATEVER THE INPUT: true; the input reads as it did. -/
def tagFormsSpec : ChangeSpec := { name := "tagForms", fn := fun _ => fun
  | [d1, d2] => { results := [.lit (.bool true)], args := [d1, d2] }
  | _ => none }
def tagFormsRow : OpenClaim := { program := "ytmhbkilpllgchaa", sum := "f52f8112f1d573062f20b80d3e7da2b8028a275a8327812adde1d840556f7a59", func := "almonry/almonrylaw2.TagForms", spec := "tagForms", unfollowed := true, recurses := true, plainKeys := false, apart := false }
def TagFormsSaid : Prop := tagFormsRow.holds Try.pinned (OpenSpec.ofChange tagFormsSpec)

/-- ITS FALSE NEIGHBOUR: 'it returns false'. Refute it at one input. -/
def tagFormsWrong : ChangeSpec := { name := "tagForms", fn := fun _ => fun
  | [d1, d2] => { results := [.lit (.bool false)], args := [d1, d2] }
  | _ => none }
def TagFormsWrongFalsely : Prop := tagFormsRow.holds Try.pinned (OpenSpec.ofChange tagFormsWrong)

/-- 'almonrylaw2.TagMade': WHATEVER THE INPUT: true; the input reads as it did. -/
def tagMadeSpec : ChangeSpec := { name := "tagMade", fn := fun _ => fun
  | [d1, d2] => { results := [.lit (.bool true)], args := [d1, d2] }
  | _ => none }
def tagMadeRow : OpenClaim := { program := "ytmhbkilpllgchaa", sum := "f52f8112f1d573062f20b80d3e7da2b8028a275a8327812adde1d840556f7a59", func := "almonry/almonrylaw2.TagMade", spec := "tagMade", unfollowed := true, recurses := true, plainKeys := false, apart := false }
def TagMadeSaid : Prop := tagMadeRow.holds Try.pinned (OpenSpec.ofChange tagMadeSpec)

/-- ITS FALSE NEIGHBOUR: 'it returns false'. Refute it at one input. -/
def tagMadeWrong : ChangeSpec := { name := "tagMade", fn := fun _ => fun
  | [d1, d2] => { results := [.lit (.bool false)], args := [d1, d2] }
  | _ => none }
def TagMadeWrongFalsely : Prop := tagMadeRow.holds Try.pinned (OpenSpec.ofChange tagMadeWrong)

/-- 'almonrylaw16.Paths': WHATEVER THE INPUT: true; the input reads as it did. -/
def pathsSpec : ChangeSpec := { name := "paths", fn := fun _ => fun
  | [d] => { results := [.lit (.bool true)], args := [d] }
  | _ => none }
def pathsRow : OpenClaim := { program := "ytmhbkilpllgchaa", sum := "f52f8112f1d573062f20b80d3e7da2b8028a275a8327812adde1d840556f7a59", func := "almonry/almonrylaw16.Paths", spec := "paths", inPlace := ["internal/bytealg.IndexByteString", "internal/bytealg.IndexString"], unfollowed := true, recurses := true, named := ["internal/bytealg.MaxLen"], plainKeys := false, apart := false }
def PathsSaid : Prop := pathsRow.holds Try.pinned (OpenSpec.ofChange pathsSpec)

/-- ITS FALSE NEIGHBOUR: 'it returns false'. Refute it at one input. -/
def pathsWrong : ChangeSpec := { name := "paths", fn := fun _ => fun
  | [d] => { results := [.lit (.bool false)], args := [d] }
  | _ => none }
def PathsWrongFalsely : Prop := pathsRow.holds Try.pinned (OpenSpec.ofChange pathsWrong)

/-- 'almonrylaw16.PathBack': WHATEVER THE INPUT: true; the input reads as it did. -/
def pathBackSpec : ChangeSpec := { name := "pathBack", fn := fun _ => fun
  | [d] => { results := [.lit (.bool true)], args := [d] }
  | _ => none }
def pathBackRow : OpenClaim := { program := "ytmhbkilpllgchaa", sum := "f52f8112f1d573062f20b80d3e7da2b8028a275a8327812adde1d840556f7a59", func := "almonry/almonrylaw16.PathBack", spec := "pathBack", inPlace := ["internal/bytealg.IndexByteString", "internal/bytealg.IndexString"], unfollowed := true, recurses := true, named := ["internal/bytealg.MaxLen"], plainKeys := false, apart := false }
def PathBackSaid : Prop := pathBackRow.holds Try.pinned (OpenSpec.ofChange pathBackSpec)

/-- ITS FALSE NEIGHBOUR: 'it returns false'. Refute it at one input. -/
def pathBackWrong : ChangeSpec := { name := "pathBack", fn := fun _ => fun
  | [d] => { results := [.lit (.bool false)], args := [d] }
  | _ => none }
def PathBackWrongFalsely : Prop := pathBackRow.holds Try.pinned (OpenSpec.ofChange pathBackWrong)

/-- 'almonrylaw16.PathWrong': WHATEVER THE INPUT: true; the input reads as it did. -/
def pathWrongSpec : ChangeSpec := { name := "pathWrong", fn := fun _ => fun
  | [d1, d2] => { results := [.lit (.bool true)], args := [d1, d2] }
  | _ => none }
def pathWrongRow : OpenClaim := { program := "ytmhbkilpllgchaa", sum := "f52f8112f1d573062f20b80d3e7da2b8028a275a8327812adde1d840556f7a59", func := "almonry/almonrylaw16.PathWrong", spec := "pathWrong", inPlace := ["internal/bytealg.IndexByteString", "internal/bytealg.IndexString"], unfollowed := true, recurses := true, named := ["internal/bytealg.MaxLen"], plainKeys := false, apart := false }
def PathWrongSaid : Prop := pathWrongRow.holds Try.pinned (OpenSpec.ofChange pathWrongSpec)

/-- ITS FALSE NEIGHBOUR: 'it returns false'. Refute it at one input. -/
def pathWrongWrong : ChangeSpec := { name := "pathWrong", fn := fun _ => fun
  | [d1, d2] => { results := [.lit (.bool false)], args := [d1, d2] }
  | _ => none }
def PathWrongWrongFalsely : Prop := pathWrongRow.holds Try.pinned (OpenSpec.ofChange pathWrongWrong)

/-- 'almonrylaw11.ObjectActs': WHATEVER THE INPUT: true; the input reads as it did. -/
def objectActsSpec : ChangeSpec := { name := "objectActs", fn := fun _ => fun
  | [d1, d2] => { results := [.lit (.bool true)], args := [d1, d2] }
  | _ => none }
def objectActsRow : OpenClaim := { program := "ytmhbkilpllgchaa", sum := "f52f8112f1d573062f20b80d3e7da2b8028a275a8327812adde1d840556f7a59", func := "almonry/almonrylaw11.ObjectActs", spec := "objectActs", unfollowed := true, recurses := true, plainKeys := false, apart := false }
def ObjectActsSaid : Prop := objectActsRow.holds Try.pinned (OpenSpec.ofChange objectActsSpec)

/-- ITS FALSE NEIGHBOUR: 'it returns false'. Refute it at one input. -/
def objectActsWrong : ChangeSpec := { name := "objectActs", fn := fun _ => fun
  | [d1, d2] => { results := [.lit (.bool false)], args := [d1, d2] }
  | _ => none }
def ObjectActsWrongFalsely : Prop := objectActsRow.holds Try.pinned (OpenSpec.ofChange objectActsWrong)

/-- 'almonrylaw11.ObjectRoom': WHATEVER THE INPUT: true; the input reads as it did. -/
def objectRoomSpec : ChangeSpec := { name := "objectRoom", fn := fun _ => fun
  | [d1, d2] => { results := [.lit (.bool true)], args := [d1, d2] }
  | _ => none }
def objectRoomRow : OpenClaim := { program := "ytmhbkilpllgchaa", sum := "f52f8112f1d573062f20b80d3e7da2b8028a275a8327812adde1d840556f7a59", func := "almonry/almonrylaw11.ObjectRoom", spec := "objectRoom", unfollowed := true, recurses := true, plainKeys := false, apart := false }
def ObjectRoomSaid : Prop := objectRoomRow.holds Try.pinned (OpenSpec.ofChange objectRoomSpec)

/-- ITS FALSE NEIGHBOUR: 'it returns false'. Refute it at one input. -/
def objectRoomWrong : ChangeSpec := { name := "objectRoom", fn := fun _ => fun
  | [d1, d2] => { results := [.lit (.bool false)], args := [d1, d2] }
  | _ => none }
def ObjectRoomWrongFalsely : Prop := objectRoomRow.holds Try.pinned (OpenSpec.ofChange objectRoomWrong)

/-- 'almonrylaw11.ObjectForms': WHATEVER THE INPUT: true; the input reads as it did. -/
def objectFormsSpec : ChangeSpec := { name := "objectForms", fn := fun _ => fun
  | [d1, d2, d3] => { results := [.lit (.bool true)], args := [d1, d2, d3] }
  | _ => none }
def objectFormsRow : OpenClaim := { program := "ytmhbkilpllgchaa", sum := "f52f8112f1d573062f20b80d3e7da2b8028a275a8327812adde1d840556f7a59", func := "almonry/almonrylaw11.ObjectForms", spec := "objectForms", unfollowed := true, recurses := true, plainKeys := false, apart := false }
def ObjectFormsSaid : Prop := objectFormsRow.holds Try.pinned (OpenSpec.ofChange objectFormsSpec)

/-- ITS FALSE NEIGHBOUR: 'it returns false'. Refute it at one input. -/
def objectFormsWrong : ChangeSpec := { name := "objectForms", fn := fun _ => fun
  | [d1, d2, d3] => { results := [.lit (.bool false)], args := [d1, d2, d3] }
  | _ => none }
def ObjectFormsWrongFalsely : Prop := objectFormsRow.holds Try.pinned (OpenSpec.ofChange objectFormsWrong)

/-- 'almonrylaw12.Builds': WHATEVER THE INPUT: true; the input reads as it did. -/
def buildsSpec : ChangeSpec := { name := "builds", fn := fun _ => fun
  | [d] => { results := [.lit (.bool true)], args := [d] }
  | _ => none }
def buildsRow : OpenClaim := { program := "ytmhbkilpllgchaa", sum := "f52f8112f1d573062f20b80d3e7da2b8028a275a8327812adde1d840556f7a59", func := "almonry/almonrylaw12.Builds", spec := "builds", unfollowed := true, recurses := true, plainKeys := false, apart := false }
def BuildsSaid : Prop := buildsRow.holds Try.pinned (OpenSpec.ofChange buildsSpec)

/-- ITS FALSE NEIGHBOUR: 'it returns false'. Refute it at one input. -/
def buildsWrong : ChangeSpec := { name := "builds", fn := fun _ => fun
  | [d] => { results := [.lit (.bool false)], args := [d] }
  | _ => none }
def BuildsWrongFalsely : Prop := buildsRow.holds Try.pinned (OpenSpec.ofChange buildsWrong)

/-- 'almonrylaw12.FileBack': WHATEVER THE INPUT: true; the input reads as it did. -/
def fileBackSpec : ChangeSpec := { name := "fileBack", fn := fun _ => fun
  | [d1, d2, d3] => { results := [.lit (.bool true)], args := [d1, d2, d3] }
  | _ => none }
def fileBackRow : OpenClaim := { program := "ytmhbkilpllgchaa", sum := "f52f8112f1d573062f20b80d3e7da2b8028a275a8327812adde1d840556f7a59", func := "almonry/almonrylaw12.FileBack", spec := "fileBack", unfollowed := true, recurses := true, plainKeys := false, apart := false }
def FileBackSaid : Prop := fileBackRow.holds Try.pinned (OpenSpec.ofChange fileBackSpec)

/-- ITS FALSE NEIGHBOUR: 'it returns false'. Refute it at one input. -/
def fileBackWrong : ChangeSpec := { name := "fileBack", fn := fun _ => fun
  | [d1, d2, d3] => { results := [.lit (.bool false)], args := [d1, d2, d3] }
  | _ => none }
def FileBackWrongFalsely : Prop := fileBackRow.holds Try.pinned (OpenSpec.ofChange fileBackWrong)

/-- 'almonrylaw12.FileObjects': WHATEVER THE INPUT: true; the input reads as it did. -/
def fileObjectsSpec : ChangeSpec := { name := "fileObjects", fn := fun _ => fun
  | [d1, d2] => { results := [.lit (.bool true)], args := [d1, d2] }
  | _ => none }
def fileObjectsRow : OpenClaim := { program := "ytmhbkilpllgchaa", sum := "f52f8112f1d573062f20b80d3e7da2b8028a275a8327812adde1d840556f7a59", func := "almonry/almonrylaw12.FileObjects", spec := "fileObjects", unfollowed := true, recurses := true, plainKeys := false, apart := false }
def FileObjectsSaid : Prop := fileObjectsRow.holds Try.pinned (OpenSpec.ofChange fileObjectsSpec)

/-- ITS FALSE NEIGHBOUR: 'it returns false'. Refute it at one input. -/
def fileObjectsWrong : ChangeSpec := { name := "fileObjects", fn := fun _ => fun
  | [d1, d2] => { results := [.lit (.bool false)], args := [d1, d2] }
  | _ => none }
def FileObjectsWrongFalsely : Prop := fileObjectsRow.holds Try.pinned (OpenSpec.ofChange fileObjectsWrong)

/-- 'almonrylaw12.FileForms': WHATEVER THE INPUT: true; the input reads as it did. -/
def fileFormsSpec : ChangeSpec := { name := "fileForms", fn := fun _ => fun
  | [d1, d2] => { results := [.lit (.bool true)], args := [d1, d2] }
  | _ => none }
def fileFormsRow : OpenClaim := { program := "ytmhbkilpllgchaa", sum := "f52f8112f1d573062f20b80d3e7da2b8028a275a8327812adde1d840556f7a59", func := "almonry/almonrylaw12.FileForms", spec := "fileForms", unfollowed := true, recurses := true, plainKeys := false, apart := false }
def FileFormsSaid : Prop := fileFormsRow.holds Try.pinned (OpenSpec.ofChange fileFormsSpec)

/-- ITS FALSE NEIGHBOUR: 'it returns false'. Refute it at one input. -/
def fileFormsWrong : ChangeSpec := { name := "fileForms", fn := fun _ => fun
  | [d1, d2] => { results := [.lit (.bool false)], args := [d1, d2] }
  | _ => none }
def FileFormsWrongFalsely : Prop := fileFormsRow.holds Try.pinned (OpenSpec.ofChange fileFormsWrong)

/- THE SECOND FORM. 'bulk': how many values and letters a reading holds, each counted each time it is reached (what is shared counts as often as it is met; a slice's spare places count too). A statement '..UptoSaid' is the law's where the arguments, and the package variables that the reading takes, are together of bulk at most 1048576: NARROWER than '..Said'. Prove '..Said' where nothing that the law and all that it calls make is longer than what came in: it says more and counts as full. Else prove '..UptoSaid'. A law counts once. -/
mutual
def uptoBulk {H : Type} : DataW H → Nat
  | .lit (.string bytes) => bytes.length + 1
  | .lit _ => 1
  | .nil => 1
  | .ptr d => uptoBulk d + 1
  | .slice elems spare => uptoBulkAll elems + uptoBulkAll spare + 1
  | .agg parts => uptoBulkAll parts + 1
  | .iface _ d => uptoBulk d + 1
  | .map entries => uptoBulkEntries entries + 1
  | .held _ => 1
def uptoBulkAll {H : Type} : List (DataW H) → Nat
  | [] => 0
  | d :: r => uptoBulk d + uptoBulkAll r
def uptoBulkEntries {H : Type} : List (Lit × DataW H) → Nat
  | [] => 0
  | x :: r => uptoBulkEntry x + uptoBulkEntries r
def uptoBulkEntry {H : Type} : Lit × DataW H → Nat
  | (.string bytes, d) => bytes.length + uptoBulk d + 1
  | (_, d) => uptoBulk d + 1
 end
def uptoSmall : (H : Type) → List (DataW H) → Bool := fun _ ds => decide (uptoBulkAll ds ≤ 1048576)
def OpenSpec.upto (s : _root_.Go.ChangeSpec) : _root_.Go.OpenSpec := { _root_.Go.OpenSpec.ofChange s with cond := some uptoSmall }

/-- 'almonrylaw0.AlmonryNames', WHERE WHAT IT READS IS OF BULK AT MOST 1048576: true; the input reads as it did. -/
def almonryNamesUptoRow : OpenClaim := { program := "ytmhbkilpllgchaa", sum := "f52f8112f1d573062f20b80d3e7da2b8028a275a8327812adde1d840556f7a59", func := "almonry/almonrylaw0.AlmonryNames", spec := "almonryNames", plainKeys := false, apart := false, narrowed := true }
def AlmonryNamesUptoSaid : Prop := almonryNamesUptoRow.holds Try.pinned (OpenSpec.upto almonryNamesSpec)

/-- 'almonrylaw1.Shas', WHERE WHAT IT READS IS OF BULK AT MOST 1048576: true; the input reads as it did. -/
def shasUptoRow : OpenClaim := { program := "ytmhbkilpllgchaa", sum := "f52f8112f1d573062f20b80d3e7da2b8028a275a8327812adde1d840556f7a59", func := "almonry/almonrylaw1.Shas", spec := "shas", plainKeys := false, apart := false, narrowed := true }
def ShasUptoSaid : Prop := shasUptoRow.holds Try.pinned (OpenSpec.upto shasSpec)

/-- 'almonrylaw1.ShaParts', WHERE WHAT IT READS IS OF BULK AT MOST 1048576: true; the input reads as it did. -/
def shaPartsUptoRow : OpenClaim := { program := "ytmhbkilpllgchaa", sum := "f52f8112f1d573062f20b80d3e7da2b8028a275a8327812adde1d840556f7a59", func := "almonry/almonrylaw1.ShaParts", spec := "shaParts", plainKeys := false, apart := false, narrowed := true }
def ShaPartsUptoSaid : Prop := shaPartsUptoRow.holds Try.pinned (OpenSpec.upto shaPartsSpec)

/-- 'almonrylaw1.ShaKnown', WHERE WHAT IT READS IS OF BULK AT MOST 1048576: true; the input reads as it did. -/
def shaKnownUptoRow : OpenClaim := { program := "ytmhbkilpllgchaa", sum := "f52f8112f1d573062f20b80d3e7da2b8028a275a8327812adde1d840556f7a59", func := "almonry/almonrylaw1.ShaKnown", spec := "shaKnown", plainKeys := false, apart := false, narrowed := true }
def ShaKnownUptoSaid : Prop := shaKnownUptoRow.holds Try.pinned (OpenSpec.upto shaKnownSpec)

/-- 'almonrylaw1.ShaTwins', WHERE WHAT IT READS IS OF BULK AT MOST 1048576: true; the input reads as it did. -/
def shaTwinsUptoRow : OpenClaim := { program := "ytmhbkilpllgchaa", sum := "f52f8112f1d573062f20b80d3e7da2b8028a275a8327812adde1d840556f7a59", func := "almonry/almonrylaw1.ShaTwins", spec := "shaTwins", plainKeys := false, apart := false, narrowed := true }
def ShaTwinsUptoSaid : Prop := shaTwinsUptoRow.holds Try.pinned (OpenSpec.upto shaTwinsSpec)

/-- 'almonrylaw2.Tags', WHERE WHAT IT READS IS OF BULK AT MOST 1048576: true; the input reads as it did. -/
def tagsUptoRow : OpenClaim := { program := "ytmhbkilpllgchaa", sum := "f52f8112f1d573062f20b80d3e7da2b8028a275a8327812adde1d840556f7a59", func := "almonry/almonrylaw2.Tags", spec := "tags", unfollowed := true, recurses := true, plainKeys := false, apart := false, narrowed := true }
def TagsUptoSaid : Prop := tagsUptoRow.holds Try.pinned (OpenSpec.upto tagsSpec)

/-- 'almonrylaw2.TagForms', WHERE WHAT IT READS IS OF BULK AT MOST 1048576: true; the input reads as it did. -/
def tagFormsUptoRow : OpenClaim := { program := "ytmhbkilpllgchaa", sum := "f52f8112f1d573062f20b80d3e7da2b8028a275a8327812adde1d840556f7a59", func := "almonry/almonrylaw2.TagForms", spec := "tagForms", unfollowed := true, recurses := true, plainKeys := false, apart := false, narrowed := true }
def TagFormsUptoSaid : Prop := tagFormsUptoRow.holds Try.pinned (OpenSpec.upto tagFormsSpec)

/-- 'almonrylaw2.TagMade', WHERE WHAT IT READS IS OF BULK AT MOST 1048576: true; the input reads as it did. -/
def tagMadeUptoRow : OpenClaim := { program := "ytmhbkilpllgchaa", sum := "f52f8112f1d573062f20b80d3e7da2b8028a275a8327812adde1d840556f7a59", func := "almonry/almonrylaw2.TagMade", spec := "tagMade", unfollowed := true, recurses := true, plainKeys := false, apart := false, narrowed := true }
def TagMadeUptoSaid : Prop := tagMadeUptoRow.holds Try.pinned (OpenSpec.upto tagMadeSpec)

/-- 'almonrylaw16.Paths', WHERE WHAT IT READS IS OF BULK AT MOST 1048576: true; the input reads as it did. -/
def pathsUptoRow : OpenClaim := { program := "ytmhbkilpllgchaa", sum := "f52f8112f1d573062f20b80d3e7da2b8028a275a8327812adde1d840556f7a59", func := "almonry/almonrylaw16.Paths", spec := "paths", inPlace := ["internal/bytealg.IndexByteString", "internal/bytealg.IndexString"], unfollowed := true, recurses := true, named := ["internal/bytealg.MaxLen"], plainKeys := false, apart := false, narrowed := true }
def PathsUptoSaid : Prop := pathsUptoRow.holds Try.pinned (OpenSpec.upto pathsSpec)

/-- 'almonrylaw16.PathBack', WHERE WHAT IT READS IS OF BULK AT MOST 1048576: true; the input reads as it did. -/
def pathBackUptoRow : OpenClaim := { program := "ytmhbkilpllgchaa", sum := "f52f8112f1d573062f20b80d3e7da2b8028a275a8327812adde1d840556f7a59", func := "almonry/almonrylaw16.PathBack", spec := "pathBack", inPlace := ["internal/bytealg.IndexByteString", "internal/bytealg.IndexString"], unfollowed := true, recurses := true, named := ["internal/bytealg.MaxLen"], plainKeys := false, apart := false, narrowed := true }
def PathBackUptoSaid : Prop := pathBackUptoRow.holds Try.pinned (OpenSpec.upto pathBackSpec)

/-- 'almonrylaw16.PathWrong', WHERE WHAT IT READS IS OF BULK AT MOST 1048576: true; the input reads as it did. -/
def pathWrongUptoRow : OpenClaim := { program := "ytmhbkilpllgchaa", sum := "f52f8112f1d573062f20b80d3e7da2b8028a275a8327812adde1d840556f7a59", func := "almonry/almonrylaw16.PathWrong", spec := "pathWrong", inPlace := ["internal/bytealg.IndexByteString", "internal/bytealg.IndexString"], unfollowed := true, recurses := true, named := ["internal/bytealg.MaxLen"], plainKeys := false, apart := false, narrowed := true }
def PathWrongUptoSaid : Prop := pathWrongUptoRow.holds Try.pinned (OpenSpec.upto pathWrongSpec)

/-- 'almonrylaw11.ObjectActs', WHERE WHAT IT READS IS OF BULK AT MOST 1048576: true; the input reads as it did. -/
def objectActsUptoRow : OpenClaim := { program := "ytmhbkilpllgchaa", sum := "f52f8112f1d573062f20b80d3e7da2b8028a275a8327812adde1d840556f7a59", func := "almonry/almonrylaw11.ObjectActs", spec := "objectActs", unfollowed := true, recurses := true, plainKeys := false, apart := false, narrowed := true }
def ObjectActsUptoSaid : Prop := objectActsUptoRow.holds Try.pinned (OpenSpec.upto objectActsSpec)

/-- 'almonrylaw11.ObjectRoom', WHERE WHAT IT READS IS OF BULK AT MOST 1048576: true; the input reads as it did. -/
def objectRoomUptoRow : OpenClaim := { program := "ytmhbkilpllgchaa", sum := "f52f8112f1d573062f20b80d3e7da2b8028a275a8327812adde1d840556f7a59", func := "almonry/almonrylaw11.ObjectRoom", spec := "objectRoom", unfollowed := true, recurses := true, plainKeys := false, apart := false, narrowed := true }
def ObjectRoomUptoSaid : Prop := objectRoomUptoRow.holds Try.pinned (OpenSpec.upto objectRoomSpec)

/-- 'almonrylaw11.ObjectForms', WHERE WHAT IT READS IS OF BULK AT MOST 1048576: true; the input reads as it did. -/
def objectFormsUptoRow : OpenClaim := { program := "ytmhbkilpllgchaa", sum := "f52f8112f1d573062f20b80d3e7da2b8028a275a8327812adde1d840556f7a59", func := "almonry/almonrylaw11.ObjectForms", spec := "objectForms", unfollowed := true, recurses := true, plainKeys := false, apart := false, narrowed := true }
def ObjectFormsUptoSaid : Prop := objectFormsUptoRow.holds Try.pinned (OpenSpec.upto objectFormsSpec)

/-- 'almonrylaw12.Builds', WHERE WHAT IT READS IS OF BULK AT MOST 1048576: true; the input reads as it did. -/
def buildsUptoRow : OpenClaim := { program := "ytmhbkilpllgchaa", sum := "f52f8112f1d573062f20b80d3e7da2b8028a275a8327812adde1d840556f7a59", func := "almonry/almonrylaw12.Builds", spec := "builds", unfollowed := true, recurses := true, plainKeys := false, apart := false, narrowed := true }
def BuildsUptoSaid : Prop := buildsUptoRow.holds Try.pinned (OpenSpec.upto buildsSpec)

/-- 'almonrylaw12.FileBack', WHERE WHAT IT READS IS OF BULK AT MOST 1048576: true; the input reads as it did. -/
def fileBackUptoRow : OpenClaim := { program := "ytmhbkilpllgchaa", sum := "f52f8112f1d573062f20b80d3e7da2b8028a275a8327812adde1d840556f7a59", func := "almonry/almonrylaw12.FileBack", spec := "fileBack", unfollowed := true, recurses := true, plainKeys := false, apart := false, narrowed := true }
def FileBackUptoSaid : Prop := fileBackUptoRow.holds Try.pinned (OpenSpec.upto fileBackSpec)

/-- 'almonrylaw12.FileObjects', WHERE WHAT IT READS IS OF BULK AT MOST 1048576: true; the input reads as it did. -/
def fileObjectsUptoRow : OpenClaim := { program := "ytmhbkilpllgchaa", sum := "f52f8112f1d573062f20b80d3e7da2b8028a275a8327812adde1d840556f7a59", func := "almonry/almonrylaw12.FileObjects", spec := "fileObjects", unfollowed := true, recurses := true, plainKeys := false, apart := false, narrowed := true }
def FileObjectsUptoSaid : Prop := fileObjectsUptoRow.holds Try.pinned (OpenSpec.upto fileObjectsSpec)

/-- 'almonrylaw12.FileForms', WHERE WHAT IT READS IS OF BULK AT MOST 1048576: true; the input reads as it did. -/
def fileFormsUptoRow : OpenClaim := { program := "ytmhbkilpllgchaa", sum := "f52f8112f1d573062f20b80d3e7da2b8028a275a8327812adde1d840556f7a59", func := "almonry/almonrylaw12.FileForms", spec := "fileForms", unfollowed := true, recurses := true, plainKeys := false, apart := false, narrowed := true }
def FileFormsUptoSaid : Prop := fileFormsUptoRow.holds Try.pinned (OpenSpec.upto fileFormsSpec)

end Rows
end Go.Proofs.Ytmhbkilpllgchaa
