/-
  No cell of these rows narrows 'for every input' (looked for: loops, veiled, ifaces, maps, wideKeys, modest, calm, conditions, laid).
  DERIVED. THE GIVEN ROWS OF THIS SEAT. 12 by the template 'for every input the law returns true; each argument reads behind the call as it read before'; 0 by the template 'total and deterministic' (their statements: YtdlbjllgdikadaaTotals.lean).
  GIVEN WITH THE SEED: the statements are not yours to turn. If you find one false, say at which input.
  Laid BY PROGRAM, IN A SANDBOX (cutbox-rows.mjs): the forced cells as the released guide's own fill.sh prints them over the translation 291e32a632dcff52… (all of the seat's roots in one cut). By AI agents, Wed Nov 11 2026. No macro, syntax, notation, axiom, sorry.
-/
import Derived.Test.YtdlbjllgdikadaaChecked
import GoSem.Claim
import GoSem.ClaimJoined
import GoSem.ClaimMapViews
import Derived.JoinedTies
import Derived.KernelRfl
namespace Go.Proofs.Ytdlbjllgdikadaa
/- THE CELL 'sum', in the pinned program and in every row, IS THE sha256 OF THE DUMP (.gsa) THAT YtdlbjllgdikadaaProg.lean LOADS. Nothing in Lean hashes anything: it is a label: what it is worth is what the hold of that sum in a sandbox is worth. -/
noncomputable def Try.pinned : Pinned := { name := "ytdlbjllgdikadaa", sum := "291e32a632dcff524cbb354ef93d8d6ce28bce4a7df2ef03a386ee1335b7505c", checked := Try.checked }
namespace Rows
def none {H : Type} : Left H := { results := [], args := [] }

/-- 'varvelaw01.CrcSums': WHATEVER THE INPUT: true; the input reads as it did. -/
def crcSumsSpec : ChangeSpec := { name := "crcSums", fn := fun _ => fun
  | [d1, d2] => { results := [.lit (.bool true)], args := [d1, d2] }
  | _ => none }
def crcSumsRow : OpenClaim := { program := "ytdlbjllgdikadaa", sum := "291e32a632dcff524cbb354ef93d8d6ce28bce4a7df2ef03a386ee1335b7505c", func := "varve/varvelaw01.CrcSums", spec := "crcSums", unfollowed := true, recurses := true, apart := false }
def CrcSumsSaid : Prop := crcSumsRow.holds Try.pinned (OpenSpec.ofChange crcSumsSpec)

/-- ITS FALSE NEIGHBOUR: 'it returns false'. Refute it at one input. -/
def crcSumsWrong : ChangeSpec := { name := "crcSums", fn := fun _ => fun
  | [d1, d2] => { results := [.lit (.bool false)], args := [d1, d2] }
  | _ => none }
def CrcSumsWrongFalsely : Prop := crcSumsRow.holds Try.pinned (OpenSpec.ofChange crcSumsWrong)

/-- 'varvelaw01.CrcOne': WHATEVER THE INPUT: true; the input reads as it did. -/
def crcOneSpec : ChangeSpec := { name := "crcOne", fn := fun _ => fun
  | [d1, d2, d3] => { results := [.lit (.bool true)], args := [d1, d2, d3] }
  | _ => none }
def crcOneRow : OpenClaim := { program := "ytdlbjllgdikadaa", sum := "291e32a632dcff524cbb354ef93d8d6ce28bce4a7df2ef03a386ee1335b7505c", func := "varve/varvelaw01.CrcOne", spec := "crcOne", unfollowed := true, recurses := true, apart := false }
def CrcOneSaid : Prop := crcOneRow.holds Try.pinned (OpenSpec.ofChange crcOneSpec)

/-- ITS FALSE NEIGHBOUR: 'it returns false'. Refute it at one input. -/
def crcOneWrong : ChangeSpec := { name := "crcOne", fn := fun _ => fun
  | [d1, d2, d3] => { results := [.lit (.bool false)], args := [d1, d2, d3] }
  | _ => none }
def CrcOneWrongFalsely : Prop := crcOneRow.holds Try.pinned (OpenSpec.ofChange crcOneWrong)

/-- 'varvelaw20.SegmentSplits': WHATEVER THE INPUT: true; the input reads as it did. -/
def segmentSplitsSpec : ChangeSpec := { name := "segmentSplits", fn := fun _ => fun
  | [d1, d2, d3, d4] => { results := [.lit (.bool true)], args := [d1, d2, d3, d4] }
  | _ => none }
def segmentSplitsRow : OpenClaim := { program := "ytdlbjllgdikadaa", sum := "291e32a632dcff524cbb354ef93d8d6ce28bce4a7df2ef03a386ee1335b7505c", func := "varve/varvelaw20.SegmentSplits", spec := "segmentSplits", unfollowed := true, recurses := true, apart := false }
def SegmentSplitsSaid : Prop := segmentSplitsRow.holds Try.pinned (OpenSpec.ofChange segmentSplitsSpec)

/-- ITS FALSE NEIGHBOUR: 'it returns false'. Refute it at one input. -/
def segmentSplitsWrong : ChangeSpec := { name := "segmentSplits", fn := fun _ => fun
  | [d1, d2, d3, d4] => { results := [.lit (.bool false)], args := [d1, d2, d3, d4] }
  | _ => none }
def SegmentSplitsWrongFalsely : Prop := segmentSplitsRow.holds Try.pinned (OpenSpec.ofChange segmentSplitsWrong)

/-- 'varvelaw20.SegmentForms': WHATEVER THE INPUT: true; the input reads as it did. -/
def segmentFormsSpec : ChangeSpec := { name := "segmentForms", fn := fun _ => fun
  | [d1, d2] => { results := [.lit (.bool true)], args := [d1, d2] }
  | _ => none }
def segmentFormsRow : OpenClaim := { program := "ytdlbjllgdikadaa", sum := "291e32a632dcff524cbb354ef93d8d6ce28bce4a7df2ef03a386ee1335b7505c", func := "varve/varvelaw20.SegmentForms", spec := "segmentForms", unfollowed := true, recurses := true, apart := false }
def SegmentFormsSaid : Prop := segmentFormsRow.holds Try.pinned (OpenSpec.ofChange segmentFormsSpec)

/-- ITS FALSE NEIGHBOUR: 'it returns false'. Refute it at one input. -/
def segmentFormsWrong : ChangeSpec := { name := "segmentForms", fn := fun _ => fun
  | [d1, d2] => { results := [.lit (.bool false)], args := [d1, d2] }
  | _ => none }
def SegmentFormsWrongFalsely : Prop := segmentFormsRow.holds Try.pinned (OpenSpec.ofChange segmentFormsWrong)

/-- 'varvelaw20.SegmentBack': WHATEVER THE INPUT: true; the input reads as it did. -/
def segmentBackSpec : ChangeSpec := { name := "segmentBack", fn := fun _ => fun
  | [d1, d2, d3, d4, d5, d6] => { results := [.lit (.bool true)], args := [d1, d2, d3, d4, d5, d6] }
  | _ => none }
def segmentBackRow : OpenClaim := { program := "ytdlbjllgdikadaa", sum := "291e32a632dcff524cbb354ef93d8d6ce28bce4a7df2ef03a386ee1335b7505c", func := "varve/varvelaw20.SegmentBack", spec := "segmentBack", unfollowed := true, recurses := true, apart := false }
def SegmentBackSaid : Prop := segmentBackRow.holds Try.pinned (OpenSpec.ofChange segmentBackSpec)

/-- ITS FALSE NEIGHBOUR: 'it returns false'. Refute it at one input. -/
def segmentBackWrong : ChangeSpec := { name := "segmentBack", fn := fun _ => fun
  | [d1, d2, d3, d4, d5, d6] => { results := [.lit (.bool false)], args := [d1, d2, d3, d4, d5, d6] }
  | _ => none }
def SegmentBackWrongFalsely : Prop := segmentBackRow.holds Try.pinned (OpenSpec.ofChange segmentBackWrong)

/-- 'varvelaw19.DeviceCrash': WHATEVER THE INPUT: true; the input reads as it did. -/
def deviceCrashSpec : ChangeSpec := { name := "deviceCrash", fn := fun _ => fun
  | [d1, d2, d3] => { results := [.lit (.bool true)], args := [d1, d2, d3] }
  | _ => none }
def deviceCrashRow : OpenClaim := { program := "ytdlbjllgdikadaa", sum := "291e32a632dcff524cbb354ef93d8d6ce28bce4a7df2ef03a386ee1335b7505c", func := "varve/varvelaw19.DeviceCrash", spec := "deviceCrash", apart := false }
def DeviceCrashSaid : Prop := deviceCrashRow.holds Try.pinned (OpenSpec.ofChange deviceCrashSpec)

/-- ITS FALSE NEIGHBOUR: 'it returns false'. Refute it at one input. -/
def deviceCrashWrong : ChangeSpec := { name := "deviceCrash", fn := fun _ => fun
  | [d1, d2, d3] => { results := [.lit (.bool false)], args := [d1, d2, d3] }
  | _ => none }
def DeviceCrashWrongFalsely : Prop := deviceCrashRow.holds Try.pinned (OpenSpec.ofChange deviceCrashWrong)

/-- 'varvelaw19.DevicePlays': WHATEVER THE INPUT: true; the input reads as it did. -/
def devicePlaysSpec : ChangeSpec := { name := "devicePlays", fn := fun _ => fun
  | [d1, d2] => { results := [.lit (.bool true)], args := [d1, d2] }
  | _ => none }
def devicePlaysRow : OpenClaim := { program := "ytdlbjllgdikadaa", sum := "291e32a632dcff524cbb354ef93d8d6ce28bce4a7df2ef03a386ee1335b7505c", func := "varve/varvelaw19.DevicePlays", spec := "devicePlays", inPlace := ["maps.clone"], apart := false }
def DevicePlaysSaid : Prop := devicePlaysRow.holds Try.pinned (OpenSpec.ofChange devicePlaysSpec)

/-- ITS FALSE NEIGHBOUR: 'it returns false'. Refute it at one input. -/
def devicePlaysWrong : ChangeSpec := { name := "devicePlays", fn := fun _ => fun
  | [d1, d2] => { results := [.lit (.bool false)], args := [d1, d2] }
  | _ => none }
def DevicePlaysWrongFalsely : Prop := devicePlaysRow.holds Try.pinned (OpenSpec.ofChange devicePlaysWrong)

/-- 'varvelaw21.ScanFinds': WHATEVER THE INPUT: true; the input reads as it did. -/
def scanFindsSpec : ChangeSpec := { name := "scanFinds", fn := fun _ => fun
  | [d1, d2] => { results := [.lit (.bool true)], args := [d1, d2] }
  | _ => none }
def scanFindsRow : OpenClaim := { program := "ytdlbjllgdikadaa", sum := "291e32a632dcff524cbb354ef93d8d6ce28bce4a7df2ef03a386ee1335b7505c", func := "varve/varvelaw21.ScanFinds", spec := "scanFinds", unfollowed := true, recurses := true, apart := false }
def ScanFindsSaid : Prop := scanFindsRow.holds Try.pinned (OpenSpec.ofChange scanFindsSpec)

/-- ITS FALSE NEIGHBOUR: 'it returns false'. Refute it at one input. -/
def scanFindsWrong : ChangeSpec := { name := "scanFinds", fn := fun _ => fun
  | [d1, d2] => { results := [.lit (.bool false)], args := [d1, d2] }
  | _ => none }
def ScanFindsWrongFalsely : Prop := scanFindsRow.holds Try.pinned (OpenSpec.ofChange scanFindsWrong)

/-- 'varvelaw21.ScanRecords': WHATEVER THE INPUT: true; the input reads as it did. -/
def scanRecordsSpec : ChangeSpec := { name := "scanRecords", fn := fun _ => fun
  | [d] => { results := [.lit (.bool true)], args := [d] }
  | _ => none }
def scanRecordsRow : OpenClaim := { program := "ytdlbjllgdikadaa", sum := "291e32a632dcff524cbb354ef93d8d6ce28bce4a7df2ef03a386ee1335b7505c", func := "varve/varvelaw21.ScanRecords", spec := "scanRecords", unfollowed := true, recurses := true, apart := false }
def ScanRecordsSaid : Prop := scanRecordsRow.holds Try.pinned (OpenSpec.ofChange scanRecordsSpec)

/-- ITS FALSE NEIGHBOUR: 'it returns false'. Refute it at one input. -/
def scanRecordsWrong : ChangeSpec := { name := "scanRecords", fn := fun _ => fun
  | [d] => { results := [.lit (.bool false)], args := [d] }
  | _ => none }
def ScanRecordsWrongFalsely : Prop := scanRecordsRow.holds Try.pinned (OpenSpec.ofChange scanRecordsWrong)

/-- 'varvelaw21.ScanTorn': WHATEVER THE INPUT: true; the input reads as it did. -/
def scanTornSpec : ChangeSpec := { name := "scanTorn", fn := fun _ => fun
  | [d1, d2, d3, d4, d5] => { results := [.lit (.bool true)], args := [d1, d2, d3, d4, d5] }
  | _ => none }
def scanTornRow : OpenClaim := { program := "ytdlbjllgdikadaa", sum := "291e32a632dcff524cbb354ef93d8d6ce28bce4a7df2ef03a386ee1335b7505c", func := "varve/varvelaw21.ScanTorn", spec := "scanTorn", inPlace := ["maps.clone"], unfollowed := true, recurses := true, apart := false }
def ScanTornSaid : Prop := scanTornRow.holds Try.pinned (OpenSpec.ofChange scanTornSpec)

/-- ITS FALSE NEIGHBOUR: 'it returns false'. Refute it at one input. -/
def scanTornWrong : ChangeSpec := { name := "scanTorn", fn := fun _ => fun
  | [d1, d2, d3, d4, d5] => { results := [.lit (.bool false)], args := [d1, d2, d3, d4, d5] }
  | _ => none }
def ScanTornWrongFalsely : Prop := scanTornRow.holds Try.pinned (OpenSpec.ofChange scanTornWrong)

/-- 'varvelaw22.LogNone': WHATEVER THE INPUT: true; the input reads as it did. -/
def logNoneSpec : ChangeSpec := { name := "logNone", fn := fun _ => fun
  | [d] => { results := [.lit (.bool true)], args := [d] }
  | _ => none }
def logNoneRow : OpenClaim := { program := "ytdlbjllgdikadaa", sum := "291e32a632dcff524cbb354ef93d8d6ce28bce4a7df2ef03a386ee1335b7505c", func := "varve/varvelaw22.LogNone", spec := "logNone", unfollowed := true, recurses := true, apart := false }
def LogNoneSaid : Prop := logNoneRow.holds Try.pinned (OpenSpec.ofChange logNoneSpec)

/-- ITS FALSE NEIGHBOUR: 'it returns false'. Refute it at one input. -/
def logNoneWrong : ChangeSpec := { name := "logNone", fn := fun _ => fun
  | [d] => { results := [.lit (.bool false)], args := [d] }
  | _ => none }
def LogNoneWrongFalsely : Prop := logNoneRow.holds Try.pinned (OpenSpec.ofChange logNoneWrong)

/-- 'varvelaw22.LogPlays': WHATEVER THE INPUT: true; the input reads as it did. -/
def logPlaysSpec : ChangeSpec := { name := "logPlays", fn := fun _ => fun
  | [d1, d2] => { results := [.lit (.bool true)], args := [d1, d2] }
  | _ => none }
def logPlaysRow : OpenClaim := { program := "ytdlbjllgdikadaa", sum := "291e32a632dcff524cbb354ef93d8d6ce28bce4a7df2ef03a386ee1335b7505c", func := "varve/varvelaw22.LogPlays", spec := "logPlays", inPlace := ["maps.clone"], unfollowed := true, recurses := true, apart := false }
def LogPlaysSaid : Prop := logPlaysRow.holds Try.pinned (OpenSpec.ofChange logPlaysSpec)

/-- ITS FALSE NEIGHBOUR: 'it returns false'. Refute it at one input. -/
def logPlaysWrong : ChangeSpec := { name := "logPlays", fn := fun _ => fun
  | [d1, d2] => { results := [.lit (.bool false)], args := [d1, d2] }
  | _ => none }
def LogPlaysWrongFalsely : Prop := logPlaysRow.holds Try.pinned (OpenSpec.ofChange logPlaysWrong)

/- THE SECOND FORM. 'bulk': how many values and letters a reading holds, each counted each time it is reached (what is shared counts as often as it is met; a slice's spare places count too). A statement '..UptoSaid' is the law's where the arguments, and the package variables that the reading takes, are together of bulk at most 1048576: NARROWER than '..Said'. Prove '..Said' where nothing that the law and all that it calls make is longer than what came in: it says more and counts as full. Else prove '..UptoSaid'. A law counts once. -/
mutual
def uptoBulk {H : Type} : DataW H → Nat
  | .lit (.string bytes) => bytes.length + 1
  | .lit _ => 1
  | .nil => 1
  | .ptr d => uptoBulk d + 1
  | .slice elems spare => uptoBulkAll elems + uptoBulkAll spare + 1
  | .agg parts => uptoBulkAll parts + 1
  | .iface _ d => uptoBulk d + 1
  | .map entries => uptoBulkEntries entries + 1
  | .held _ => 1
def uptoBulkAll {H : Type} : List (DataW H) → Nat
  | [] => 0
  | d :: r => uptoBulk d + uptoBulkAll r
def uptoBulkEntries {H : Type} : List (Lit × DataW H) → Nat
  | [] => 0
  | x :: r => uptoBulkEntry x + uptoBulkEntries r
def uptoBulkEntry {H : Type} : Lit × DataW H → Nat
  | (.string bytes, d) => bytes.length + uptoBulk d + 1
  | (_, d) => uptoBulk d + 1
 end
def uptoSmall : (H : Type) → List (DataW H) → Bool := fun _ ds => decide (uptoBulkAll ds ≤ 1048576)
def OpenSpec.upto (s : _root_.Go.ChangeSpec) : _root_.Go.OpenSpec := { _root_.Go.OpenSpec.ofChange s with cond := some uptoSmall }

/-- 'varvelaw01.CrcSums', WHERE WHAT IT READS IS OF BULK AT MOST 1048576: true; the input reads as it did. -/
def crcSumsUptoRow : OpenClaim := { program := "ytdlbjllgdikadaa", sum := "291e32a632dcff524cbb354ef93d8d6ce28bce4a7df2ef03a386ee1335b7505c", func := "varve/varvelaw01.CrcSums", spec := "crcSums", unfollowed := true, recurses := true, apart := false, narrowed := true }
def CrcSumsUptoSaid : Prop := crcSumsUptoRow.holds Try.pinned (OpenSpec.upto crcSumsSpec)

/-- 'varvelaw01.CrcOne', WHERE WHAT IT READS IS OF BULK AT MOST 1048576: true; the input reads as it did. -/
def crcOneUptoRow : OpenClaim := { program := "ytdlbjllgdikadaa", sum := "291e32a632dcff524cbb354ef93d8d6ce28bce4a7df2ef03a386ee1335b7505c", func := "varve/varvelaw01.CrcOne", spec := "crcOne", unfollowed := true, recurses := true, apart := false, narrowed := true }
def CrcOneUptoSaid : Prop := crcOneUptoRow.holds Try.pinned (OpenSpec.upto crcOneSpec)

/-- 'varvelaw20.SegmentSplits', WHERE WHAT IT READS IS OF BULK AT MOST 1048576: true; the input reads as it did. -/
def segmentSplitsUptoRow : OpenClaim := { program := "ytdlbjllgdikadaa", sum := "291e32a632dcff524cbb354ef93d8d6ce28bce4a7df2ef03a386ee1335b7505c", func := "varve/varvelaw20.SegmentSplits", spec := "segmentSplits", unfollowed := true, recurses := true, apart := false, narrowed := true }
def SegmentSplitsUptoSaid : Prop := segmentSplitsUptoRow.holds Try.pinned (OpenSpec.upto segmentSplitsSpec)

/-- 'varvelaw20.SegmentForms', WHERE WHAT IT READS IS OF BULK AT MOST 1048576: true; the input reads as it did. -/
def segmentFormsUptoRow : OpenClaim := { program := "ytdlbjllgdikadaa", sum := "291e32a632dcff524cbb354ef93d8d6ce28bce4a7df2ef03a386ee1335b7505c", func := "varve/varvelaw20.SegmentForms", spec := "segmentForms", unfollowed := true, recurses := true, apart := false, narrowed := true }
def SegmentFormsUptoSaid : Prop := segmentFormsUptoRow.holds Try.pinned (OpenSpec.upto segmentFormsSpec)

/-- 'varvelaw20.SegmentBack', WHERE WHAT IT READS IS OF BULK AT MOST 1048576: true; the input reads as it did. -/
def segmentBackUptoRow : OpenClaim := { program := "ytdlbjllgdikadaa", sum := "291e32a632dcff524cbb354ef93d8d6ce28bce4a7df2ef03a386ee1335b7505c", func := "varve/varvelaw20.SegmentBack", spec := "segmentBack", unfollowed := true, recurses := true, apart := false, narrowed := true }
def SegmentBackUptoSaid : Prop := segmentBackUptoRow.holds Try.pinned (OpenSpec.upto segmentBackSpec)

/-- 'varvelaw19.DeviceCrash', WHERE WHAT IT READS IS OF BULK AT MOST 1048576: true; the input reads as it did. -/
def deviceCrashUptoRow : OpenClaim := { program := "ytdlbjllgdikadaa", sum := "291e32a632dcff524cbb354ef93d8d6ce28bce4a7df2ef03a386ee1335b7505c", func := "varve/varvelaw19.DeviceCrash", spec := "deviceCrash", apart := false, narrowed := true }
def DeviceCrashUptoSaid : Prop := deviceCrashUptoRow.holds Try.pinned (OpenSpec.upto deviceCrashSpec)

/-- 'varvelaw19.DevicePlays', WHERE WHAT IT READS IS OF BULK AT MOST 1048576: true; the input reads as it did. -/
def devicePlaysUptoRow : OpenClaim := { program := "ytdlbjllgdikadaa", sum := "291e32a632dcff524cbb354ef93d8d6ce28bce4a7df2ef03a386ee1335b7505c", func := "varve/varvelaw19.DevicePlays", spec := "devicePlays", inPlace := ["maps.clone"], apart := false, narrowed := true }
def DevicePlaysUptoSaid : Prop := devicePlaysUptoRow.holds Try.pinned (OpenSpec.upto devicePlaysSpec)

/-- 'varvelaw21.ScanFinds', WHERE WHAT IT READS IS OF BULK AT MOST 1048576: true; the input reads as it did. -/
def scanFindsUptoRow : OpenClaim := { program := "ytdlbjllgdikadaa", sum := "291e32a632dcff524cbb354ef93d8d6ce28bce4a7df2ef03a386ee1335b7505c", func := "varve/varvelaw21.ScanFinds", spec := "scanFinds", unfollowed := true, recurses := true, apart := false, narrowed := true }
def ScanFindsUptoSaid : Prop := scanFindsUptoRow.holds Try.pinned (OpenSpec.upto scanFindsSpec)

/-- 'varvelaw21.ScanRecords', WHERE WHAT IT READS IS OF BULK AT MOST 1048576: true; the input reads as it did. -/
def scanRecordsUptoRow : OpenClaim := { program := "ytdlbjllgdikadaa", sum := "291e32a632dcff524cbb354ef93d8d6ce28bce4a7df2ef03a386ee1335b7505c", func := "varve/varvelaw21.ScanRecords", spec := "scanRecords", unfollowed := true, recurses := true, apart := false, narrowed := true }
def ScanRecordsUptoSaid : Prop := scanRecordsUptoRow.holds Try.pinned (OpenSpec.upto scanRecordsSpec)

/-- 'varvelaw21.ScanTorn', WHERE WHAT IT READS IS OF BULK AT MOST 1048576: true; the input reads as it did. -/
def scanTornUptoRow : OpenClaim := { program := "ytdlbjllgdikadaa", sum := "291e32a632dcff524cbb354ef93d8d6ce28bce4a7df2ef03a386ee1335b7505c", func := "varve/varvelaw21.ScanTorn", spec := "scanTorn", inPlace := ["maps.clone"], unfollowed := true, recurses := true, apart := false, narrowed := true }
def ScanTornUptoSaid : Prop := scanTornUptoRow.holds Try.pinned (OpenSpec.upto scanTornSpec)

/-- 'varvelaw22.LogNone', WHERE WHAT IT READS IS OF BULK AT MOST 1048576: true; the input reads as it did. -/
def logNoneUptoRow : OpenClaim := { program := "ytdlbjllgdikadaa", sum := "291e32a632dcff524cbb354ef93d8d6ce28bce4a7df2ef03a386ee1335b7505c", func := "varve/varvelaw22.LogNone", spec := "logNone", unfollowed := true, recurses := true, apart := false, narrowed := true }
def LogNoneUptoSaid : Prop := logNoneUptoRow.holds Try.pinned (OpenSpec.upto logNoneSpec)

/-- 'varvelaw22.LogPlays', WHERE WHAT IT READS IS OF BULK AT MOST 1048576: true; the input reads as it did. -/
def logPlaysUptoRow : OpenClaim := { program := "ytdlbjllgdikadaa", sum := "291e32a632dcff524cbb354ef93d8d6ce28bce4a7df2ef03a386ee1335b7505c", func := "varve/varvelaw22.LogPlays", spec := "logPlays", inPlace := ["maps.clone"], unfollowed := true, recurses := true, apart := false, narrowed := true }
def LogPlaysUptoSaid : Prop := logPlaysUptoRow.holds Try.pinned (OpenSpec.upto logPlaysSpec)

end Rows
end Go.Proofs.Ytdlbjllgdikadaa
