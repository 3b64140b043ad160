/-
  NARROWER THAN 'FOR EVERY INPUT', by the rows' own cells (each row's printed sentence says how): CrcOf: laid · CrcMore: laid · CrcJoin: laid · CrcTwo: laid · CrcBursts: laid · CrcLaid: laid · FrameSeals: laid · FrameOpens: laid · FrameLimits: laid · FrameBack: laid · FrameFlips: laid · FrameHunts: laid · FrameSplits: laid · FrameRows: laid.
  DERIVED. THE GIVEN ROWS OF THIS SEAT. 14 by the template 'for every input the law returns true; each argument reads behind the call as it read before'; 0 by the template 'total and deterministic' (their statements: YtfbepdlahaefgaaDoorTotals.lean).
  GIVEN WITH THE SEED: the statements are not yours to turn. If you find one false, say at which input.
  Laid BY PROGRAM, IN A SANDBOX (cutbox-rows.mjs): the forced cells as the released guide's own fill.sh prints them over the translation d6ab7a11e1fb1944… (all of the seat's roots in one cut). By AI agents, Wed Nov 11 2026. No macro, syntax, notation, axiom, sorry.
-/
import Derived.Test.YtfbepdlahaefgaaDoorChecked
import GoSem.Claim
import GoSem.ClaimJoined
import GoSem.ClaimMapViews
import Derived.JoinedTies
import Derived.KernelRfl
namespace Go.Proofs.YtfbepdlahaefgaaDoor
/- THE CELL 'sum', in the pinned program and in every row, IS THE sha256 OF THE DUMP (.gsa) THAT YtfbepdlahaefgaaDoorProg.lean LOADS. Nothing in Lean hashes anything: it is a label: what it is worth is what the hold of that sum in a sandbox is worth. -/
noncomputable def Tryd.pinned : Pinned := { name := "ytfbepdlahaefgaadoor", sum := "d6ab7a11e1fb1944075435a9fccaf0f827d24e3aed0be16b70581df89746a30a", checked := Tryd.checked }
namespace Rows
def none {H : Type} : Left H := { results := [], args := [] }

/- WHAT THE LISTED PACKAGE-LEVEL VARIABLES READ AS WHEN THE CALL BEGINS. Each datum BY PROGRAM (the guide's laid-datum.mjs) off the statement by which the dump's own 'gosem.cut.vars' lays the variable. In a bare row this is a premise. The card (YtfbepdlahaefgaaDoorCards.lean) ties it to the program's text. -/
def laid_regatta_crc_short {H : Type} : DataW H := .agg [.lit (.int .u32 0), .lit (.int .u32 498536548), .lit (.int .u32 997073096), .lit (.int .u32 651767980), .lit (.int .u32 1994146192), .lit (.int .u32 1802195444), .lit (.int .u32 1303535960), .lit (.int .u32 1342533948), .lit (.int .u32 3988292384), .lit (.int .u32 4027552580), .lit (.int .u32 3604390888), .lit (.int .u32 3412177804), .lit (.int .u32 2607071920), .lit (.int .u32 2262029012), .lit (.int .u32 2685067896), .lit (.int .u32 3183342108)]
def laid_regatta_regattaref11_powers {H : Type} : DataW H := .agg [.lit (.int .i64 26), .lit (.int .i64 23), .lit (.int .i64 22), .lit (.int .i64 16), .lit (.int .i64 12), .lit (.int .i64 11), .lit (.int .i64 10), .lit (.int .i64 8), .lit (.int .i64 7), .lit (.int .i64 5), .lit (.int .i64 4), .lit (.int .i64 2), .lit (.int .i64 1), .lit (.int .i64 0)]

/-- 'regattalaw11.CrcOf': WHATEVER THE INPUT: true; the input reads as it did. -/
def crcOfSpec : ChangeSpec := { name := "crcOf", fn := fun _ => fun
  | [d] => { results := [.lit (.bool true)], args := [d] }
  | _ => none }
def crcOfRow : OpenClaim := { program := "ytfbepdlahaefgaadoor", sum := "d6ab7a11e1fb1944075435a9fccaf0f827d24e3aed0be16b70581df89746a30a", func := "regatta/regattalaw11.CrcOf", spec := "crcOf", named := ["regatta/crc.short", "regatta/regattaref11.powers"], apart := false, laid := [("regatta/crc.short", laid_regatta_crc_short), ("regatta/regattaref11.powers", laid_regatta_regattaref11_powers)] }
def CrcOfSaid : Prop := crcOfRow.holds Tryd.pinned (OpenSpec.ofChange crcOfSpec)

/-- ITS FALSE NEIGHBOUR: 'it returns false'. Refute it at one input. -/
def crcOfWrong : ChangeSpec := { name := "crcOf", fn := fun _ => fun
  | [d] => { results := [.lit (.bool false)], args := [d] }
  | _ => none }
def CrcOfWrongFalsely : Prop := crcOfRow.holds Tryd.pinned (OpenSpec.ofChange crcOfWrong)

/-- 'regattalaw11.CrcMore': WHATEVER THE INPUT: true; the input reads as it did. -/
def crcMoreSpec : ChangeSpec := { name := "crcMore", fn := fun _ => fun
  | [d1, d2] => { results := [.lit (.bool true)], args := [d1, d2] }
  | _ => none }
def crcMoreRow : OpenClaim := { program := "ytfbepdlahaefgaadoor", sum := "d6ab7a11e1fb1944075435a9fccaf0f827d24e3aed0be16b70581df89746a30a", func := "regatta/regattalaw11.CrcMore", spec := "crcMore", named := ["regatta/crc.short"], apart := false, laid := [("regatta/crc.short", laid_regatta_crc_short)] }
def CrcMoreSaid : Prop := crcMoreRow.holds Tryd.pinned (OpenSpec.ofChange crcMoreSpec)

/-- ITS FALSE NEIGHBOUR: 'it returns false'. Refute it at one input. -/
def crcMoreWrong : ChangeSpec := { name := "crcMore", fn := fun _ => fun
  | [d1, d2] => { results := [.lit (.bool false)], args := [d1, d2] }
  | _ => none }
def CrcMoreWrongFalsely : Prop := crcMoreRow.holds Tryd.pinned (OpenSpec.ofChange crcMoreWrong)

/-- 'regattalaw11.CrcJoin': WHATEVER THE INPUT: true; the input reads as it did. -/
def crcJoinSpec : ChangeSpec := { name := "crcJoin", fn := fun _ => fun
  | [d1, d2, d3] => { results := [.lit (.bool true)], args := [d1, d2, d3] }
  | _ => none }
def crcJoinRow : OpenClaim := { program := "ytfbepdlahaefgaadoor", sum := "d6ab7a11e1fb1944075435a9fccaf0f827d24e3aed0be16b70581df89746a30a", func := "regatta/regattalaw11.CrcJoin", spec := "crcJoin", named := ["regatta/crc.short", "regatta/regattaref11.powers"], apart := false, laid := [("regatta/crc.short", laid_regatta_crc_short), ("regatta/regattaref11.powers", laid_regatta_regattaref11_powers)] }
def CrcJoinSaid : Prop := crcJoinRow.holds Tryd.pinned (OpenSpec.ofChange crcJoinSpec)

/-- ITS FALSE NEIGHBOUR: 'it returns false'. Refute it at one input. -/
def crcJoinWrong : ChangeSpec := { name := "crcJoin", fn := fun _ => fun
  | [d1, d2, d3] => { results := [.lit (.bool false)], args := [d1, d2, d3] }
  | _ => none }
def CrcJoinWrongFalsely : Prop := crcJoinRow.holds Tryd.pinned (OpenSpec.ofChange crcJoinWrong)

/-- 'regattalaw11.CrcTwo': WHATEVER THE INPUT: true; the input reads as it did. -/
def crcTwoSpec : ChangeSpec := { name := "crcTwo", fn := fun _ => fun
  | [d1, d2] => { results := [.lit (.bool true)], args := [d1, d2] }
  | _ => none }
def crcTwoRow : OpenClaim := { program := "ytfbepdlahaefgaadoor", sum := "d6ab7a11e1fb1944075435a9fccaf0f827d24e3aed0be16b70581df89746a30a", func := "regatta/regattalaw11.CrcTwo", spec := "crcTwo", named := ["regatta/crc.short"], apart := false, laid := [("regatta/crc.short", laid_regatta_crc_short)] }
def CrcTwoSaid : Prop := crcTwoRow.holds Tryd.pinned (OpenSpec.ofChange crcTwoSpec)

/-- ITS FALSE NEIGHBOUR: 'it returns false'. Refute it at one input. -/
def crcTwoWrong : ChangeSpec := { name := "crcTwo", fn := fun _ => fun
  | [d1, d2] => { results := [.lit (.bool false)], args := [d1, d2] }
  | _ => none }
def CrcTwoWrongFalsely : Prop := crcTwoRow.holds Tryd.pinned (OpenSpec.ofChange crcTwoWrong)

/-- 'regattalaw11.CrcBursts': WHATEVER THE INPUT: true; the input reads as it did. -/
def crcBurstsSpec : ChangeSpec := { name := "crcBursts", fn := fun _ => fun
  | [d1, d2, d3] => { results := [.lit (.bool true)], args := [d1, d2, d3] }
  | _ => none }
def crcBurstsRow : OpenClaim := { program := "ytfbepdlahaefgaadoor", sum := "d6ab7a11e1fb1944075435a9fccaf0f827d24e3aed0be16b70581df89746a30a", func := "regatta/regattalaw11.CrcBursts", spec := "crcBursts", named := ["regatta/crc.short"], apart := false, laid := [("regatta/crc.short", laid_regatta_crc_short)] }
def CrcBurstsSaid : Prop := crcBurstsRow.holds Tryd.pinned (OpenSpec.ofChange crcBurstsSpec)

/-- ITS FALSE NEIGHBOUR: 'it returns false'. Refute it at one input. -/
def crcBurstsWrong : ChangeSpec := { name := "crcBursts", fn := fun _ => fun
  | [d1, d2, d3] => { results := [.lit (.bool false)], args := [d1, d2, d3] }
  | _ => none }
def CrcBurstsWrongFalsely : Prop := crcBurstsRow.holds Tryd.pinned (OpenSpec.ofChange crcBurstsWrong)

/-- 'regattalaw11.CrcLaid': WHATEVER THE INPUT: true; the input reads as it did. -/
def crcLaidSpec : ChangeSpec := { name := "crcLaid", fn := fun _ => fun
  | [d] => { results := [.lit (.bool true)], args := [d] }
  | _ => none }
def crcLaidRow : OpenClaim := { program := "ytfbepdlahaefgaadoor", sum := "d6ab7a11e1fb1944075435a9fccaf0f827d24e3aed0be16b70581df89746a30a", func := "regatta/regattalaw11.CrcLaid", spec := "crcLaid", named := ["regatta/crc.short"], apart := false, laid := [("regatta/crc.short", laid_regatta_crc_short)] }
def CrcLaidSaid : Prop := crcLaidRow.holds Tryd.pinned (OpenSpec.ofChange crcLaidSpec)

/-- ITS FALSE NEIGHBOUR: 'it returns false'. Refute it at one input. -/
def crcLaidWrong : ChangeSpec := { name := "crcLaid", fn := fun _ => fun
  | [d] => { results := [.lit (.bool false)], args := [d] }
  | _ => none }
def CrcLaidWrongFalsely : Prop := crcLaidRow.holds Tryd.pinned (OpenSpec.ofChange crcLaidWrong)

/-- 'regattalaw13.FrameSeals': WHATEVER THE INPUT: true; the input reads as it did. -/
def frameSealsSpec : ChangeSpec := { name := "frameSeals", fn := fun _ => fun
  | [d1, d2] => { results := [.lit (.bool true)], args := [d1, d2] }
  | _ => none }
def frameSealsRow : OpenClaim := { program := "ytfbepdlahaefgaadoor", sum := "d6ab7a11e1fb1944075435a9fccaf0f827d24e3aed0be16b70581df89746a30a", func := "regatta/regattalaw13.FrameSeals", spec := "frameSeals", named := ["regatta/crc.short"], apart := false, laid := [("regatta/crc.short", laid_regatta_crc_short)] }
def FrameSealsSaid : Prop := frameSealsRow.holds Tryd.pinned (OpenSpec.ofChange frameSealsSpec)

/-- ITS FALSE NEIGHBOUR: 'it returns false'. Refute it at one input. -/
def frameSealsWrong : ChangeSpec := { name := "frameSeals", fn := fun _ => fun
  | [d1, d2] => { results := [.lit (.bool false)], args := [d1, d2] }
  | _ => none }
def FrameSealsWrongFalsely : Prop := frameSealsRow.holds Tryd.pinned (OpenSpec.ofChange frameSealsWrong)

/-- 'regattalaw13.FrameOpens': WHATEVER THE INPUT: true; the input reads as it did. -/
def frameOpensSpec : ChangeSpec := { name := "frameOpens", fn := fun _ => fun
  | [d] => { results := [.lit (.bool true)], args := [d] }
  | _ => none }
def frameOpensRow : OpenClaim := { program := "ytfbepdlahaefgaadoor", sum := "d6ab7a11e1fb1944075435a9fccaf0f827d24e3aed0be16b70581df89746a30a", func := "regatta/regattalaw13.FrameOpens", spec := "frameOpens", named := ["regatta/crc.short"], apart := false, laid := [("regatta/crc.short", laid_regatta_crc_short)] }
def FrameOpensSaid : Prop := frameOpensRow.holds Tryd.pinned (OpenSpec.ofChange frameOpensSpec)

/-- ITS FALSE NEIGHBOUR: 'it returns false'. Refute it at one input. -/
def frameOpensWrong : ChangeSpec := { name := "frameOpens", fn := fun _ => fun
  | [d] => { results := [.lit (.bool false)], args := [d] }
  | _ => none }
def FrameOpensWrongFalsely : Prop := frameOpensRow.holds Tryd.pinned (OpenSpec.ofChange frameOpensWrong)

/-- 'regattalaw13.FrameLimits': WHATEVER THE INPUT: true; the input reads as it did. -/
def frameLimitsSpec : ChangeSpec := { name := "frameLimits", fn := fun _ => fun
  | [d] => { results := [.lit (.bool true)], args := [d] }
  | _ => none }
def frameLimitsRow : OpenClaim := { program := "ytfbepdlahaefgaadoor", sum := "d6ab7a11e1fb1944075435a9fccaf0f827d24e3aed0be16b70581df89746a30a", func := "regatta/regattalaw13.FrameLimits", spec := "frameLimits", named := ["regatta/crc.short"], apart := false, laid := [("regatta/crc.short", laid_regatta_crc_short)] }
def FrameLimitsSaid : Prop := frameLimitsRow.holds Tryd.pinned (OpenSpec.ofChange frameLimitsSpec)

/-- ITS FALSE NEIGHBOUR: 'it returns false'. Refute it at one input. -/
def frameLimitsWrong : ChangeSpec := { name := "frameLimits", fn := fun _ => fun
  | [d] => { results := [.lit (.bool false)], args := [d] }
  | _ => none }
def FrameLimitsWrongFalsely : Prop := frameLimitsRow.holds Tryd.pinned (OpenSpec.ofChange frameLimitsWrong)

/-- 'regattalaw13.FrameBack': WHATEVER THE INPUT: true; the input reads as it did. -/
def frameBackSpec : ChangeSpec := { name := "frameBack", fn := fun _ => fun
  | [d1, d2, d3] => { results := [.lit (.bool true)], args := [d1, d2, d3] }
  | _ => none }
def frameBackRow : OpenClaim := { program := "ytfbepdlahaefgaadoor", sum := "d6ab7a11e1fb1944075435a9fccaf0f827d24e3aed0be16b70581df89746a30a", func := "regatta/regattalaw13.FrameBack", spec := "frameBack", named := ["regatta/crc.short"], apart := false, laid := [("regatta/crc.short", laid_regatta_crc_short)] }
def FrameBackSaid : Prop := frameBackRow.holds Tryd.pinned (OpenSpec.ofChange frameBackSpec)

/-- ITS FALSE NEIGHBOUR: 'it returns false'. Refute it at one input. -/
def frameBackWrong : ChangeSpec := { name := "frameBack", fn := fun _ => fun
  | [d1, d2, d3] => { results := [.lit (.bool false)], args := [d1, d2, d3] }
  | _ => none }
def FrameBackWrongFalsely : Prop := frameBackRow.holds Tryd.pinned (OpenSpec.ofChange frameBackWrong)

/-- 'regattalaw13.FrameFlips': WHATEVER THE INPUT: true; the input reads as it did. -/
def frameFlipsSpec : ChangeSpec := { name := "frameFlips", fn := fun _ => fun
  | [d1, d2, d3] => { results := [.lit (.bool true)], args := [d1, d2, d3] }
  | _ => none }
def frameFlipsRow : OpenClaim := { program := "ytfbepdlahaefgaadoor", sum := "d6ab7a11e1fb1944075435a9fccaf0f827d24e3aed0be16b70581df89746a30a", func := "regatta/regattalaw13.FrameFlips", spec := "frameFlips", named := ["regatta/crc.short"], apart := false, laid := [("regatta/crc.short", laid_regatta_crc_short)] }
def FrameFlipsSaid : Prop := frameFlipsRow.holds Tryd.pinned (OpenSpec.ofChange frameFlipsSpec)

/-- ITS FALSE NEIGHBOUR: 'it returns false'. Refute it at one input. -/
def frameFlipsWrong : ChangeSpec := { name := "frameFlips", fn := fun _ => fun
  | [d1, d2, d3] => { results := [.lit (.bool false)], args := [d1, d2, d3] }
  | _ => none }
def FrameFlipsWrongFalsely : Prop := frameFlipsRow.holds Tryd.pinned (OpenSpec.ofChange frameFlipsWrong)

/-- 'regattalaw13.FrameHunts': WHATEVER THE INPUT: true; the input reads as it did. -/
def frameHuntsSpec : ChangeSpec := { name := "frameHunts", fn := fun _ => fun
  | [d1, d2] => { results := [.lit (.bool true)], args := [d1, d2] }
  | _ => none }
def frameHuntsRow : OpenClaim := { program := "ytfbepdlahaefgaadoor", sum := "d6ab7a11e1fb1944075435a9fccaf0f827d24e3aed0be16b70581df89746a30a", func := "regatta/regattalaw13.FrameHunts", spec := "frameHunts", unfollowed := true, recurses := true, named := ["regatta/crc.short"], apart := false, laid := [("regatta/crc.short", laid_regatta_crc_short)] }
def FrameHuntsSaid : Prop := frameHuntsRow.holds Tryd.pinned (OpenSpec.ofChange frameHuntsSpec)

/-- ITS FALSE NEIGHBOUR: 'it returns false'. Refute it at one input. -/
def frameHuntsWrong : ChangeSpec := { name := "frameHunts", fn := fun _ => fun
  | [d1, d2] => { results := [.lit (.bool false)], args := [d1, d2] }
  | _ => none }
def FrameHuntsWrongFalsely : Prop := frameHuntsRow.holds Tryd.pinned (OpenSpec.ofChange frameHuntsWrong)

/-- 'regattalaw13.FrameSplits': WHATEVER THE INPUT: true; the input reads as it did. -/
def frameSplitsSpec : ChangeSpec := { name := "frameSplits", fn := fun _ => fun
  | [d] => { results := [.lit (.bool true)], args := [d] }
  | _ => none }
def frameSplitsRow : OpenClaim := { program := "ytfbepdlahaefgaadoor", sum := "d6ab7a11e1fb1944075435a9fccaf0f827d24e3aed0be16b70581df89746a30a", func := "regatta/regattalaw13.FrameSplits", spec := "frameSplits", unfollowed := true, recurses := true, named := ["regatta/crc.short"], apart := false, laid := [("regatta/crc.short", laid_regatta_crc_short)] }
def FrameSplitsSaid : Prop := frameSplitsRow.holds Tryd.pinned (OpenSpec.ofChange frameSplitsSpec)

/-- ITS FALSE NEIGHBOUR: 'it returns false'. Refute it at one input. -/
def frameSplitsWrong : ChangeSpec := { name := "frameSplits", fn := fun _ => fun
  | [d] => { results := [.lit (.bool false)], args := [d] }
  | _ => none }
def FrameSplitsWrongFalsely : Prop := frameSplitsRow.holds Tryd.pinned (OpenSpec.ofChange frameSplitsWrong)

/-- 'regattalaw13.FrameRows': WHATEVER THE INPUT: true; the input reads as it did. -/
def frameRowsSpec : ChangeSpec := { name := "frameRows", fn := fun _ => fun
  | [d1, d2] => { results := [.lit (.bool true)], args := [d1, d2] }
  | _ => none }
def frameRowsRow : OpenClaim := { program := "ytfbepdlahaefgaadoor", sum := "d6ab7a11e1fb1944075435a9fccaf0f827d24e3aed0be16b70581df89746a30a", func := "regatta/regattalaw13.FrameRows", spec := "frameRows", unfollowed := true, recurses := true, named := ["regatta/crc.short"], apart := false, laid := [("regatta/crc.short", laid_regatta_crc_short)] }
def FrameRowsSaid : Prop := frameRowsRow.holds Tryd.pinned (OpenSpec.ofChange frameRowsSpec)

/-- ITS FALSE NEIGHBOUR: 'it returns false'. Refute it at one input. -/
def frameRowsWrong : ChangeSpec := { name := "frameRows", fn := fun _ => fun
  | [d1, d2] => { results := [.lit (.bool false)], args := [d1, d2] }
  | _ => none }
def FrameRowsWrongFalsely : Prop := frameRowsRow.holds Tryd.pinned (OpenSpec.ofChange frameRowsWrong)

/- THE SECOND FORM. 'bulk': how many values and letters a reading holds, each counted each time it is reached (what is shared counts as often as it is met; a slice's spare places count too). A statement '..UptoSaid' is the law's where the arguments, and the package variables that the reading takes, are together of bulk at most 1048576: NARROWER than '..Said'. Prove '..Said' where nothing that the law and all that it calls make is longer than what came in: it says more and counts as full. Else prove '..UptoSaid'. A law counts once. -/
mutual
def uptoBulk {H : Type} : DataW H → Nat
  | .lit (.string bytes) => bytes.length + 1
  | .lit _ => 1
  | .nil => 1
  | .ptr d => uptoBulk d + 1
  | .slice elems spare => uptoBulkAll elems + uptoBulkAll spare + 1
  | .agg parts => uptoBulkAll parts + 1
  | .iface _ d => uptoBulk d + 1
  | .map entries => uptoBulkEntries entries + 1
  | .held _ => 1
def uptoBulkAll {H : Type} : List (DataW H) → Nat
  | [] => 0
  | d :: r => uptoBulk d + uptoBulkAll r
def uptoBulkEntries {H : Type} : List (Lit × DataW H) → Nat
  | [] => 0
  | x :: r => uptoBulkEntry x + uptoBulkEntries r
def uptoBulkEntry {H : Type} : Lit × DataW H → Nat
  | (.string bytes, d) => bytes.length + uptoBulk d + 1
  | (_, d) => uptoBulk d + 1
 end
def uptoSmall : (H : Type) → List (DataW H) → Bool := fun _ ds => decide (uptoBulkAll ds ≤ 1048576)
def OpenSpec.upto (s : _root_.Go.ChangeSpec) : _root_.Go.OpenSpec := { _root_.Go.OpenSpec.ofChange s with cond := some uptoSmall }

/-- 'regattalaw11.CrcOf', WHERE WHAT IT READS IS OF BULK AT MOST 1048576: true; the input reads as it did. -/
def crcOfUptoRow : OpenClaim := { program := "ytfbepdlahaefgaadoor", sum := "d6ab7a11e1fb1944075435a9fccaf0f827d24e3aed0be16b70581df89746a30a", func := "regatta/regattalaw11.CrcOf", spec := "crcOf", named := ["regatta/crc.short", "regatta/regattaref11.powers"], apart := false, laid := [("regatta/crc.short", laid_regatta_crc_short), ("regatta/regattaref11.powers", laid_regatta_regattaref11_powers)], narrowed := true }
def CrcOfUptoSaid : Prop := crcOfUptoRow.holds Tryd.pinned (OpenSpec.upto crcOfSpec)

/-- 'regattalaw11.CrcMore', WHERE WHAT IT READS IS OF BULK AT MOST 1048576: true; the input reads as it did. -/
def crcMoreUptoRow : OpenClaim := { program := "ytfbepdlahaefgaadoor", sum := "d6ab7a11e1fb1944075435a9fccaf0f827d24e3aed0be16b70581df89746a30a", func := "regatta/regattalaw11.CrcMore", spec := "crcMore", named := ["regatta/crc.short"], apart := false, laid := [("regatta/crc.short", laid_regatta_crc_short)], narrowed := true }
def CrcMoreUptoSaid : Prop := crcMoreUptoRow.holds Tryd.pinned (OpenSpec.upto crcMoreSpec)

/-- 'regattalaw11.CrcJoin', WHERE WHAT IT READS IS OF BULK AT MOST 1048576: true; the input reads as it did. -/
def crcJoinUptoRow : OpenClaim := { program := "ytfbepdlahaefgaadoor", sum := "d6ab7a11e1fb1944075435a9fccaf0f827d24e3aed0be16b70581df89746a30a", func := "regatta/regattalaw11.CrcJoin", spec := "crcJoin", named := ["regatta/crc.short", "regatta/regattaref11.powers"], apart := false, laid := [("regatta/crc.short", laid_regatta_crc_short), ("regatta/regattaref11.powers", laid_regatta_regattaref11_powers)], narrowed := true }
def CrcJoinUptoSaid : Prop := crcJoinUptoRow.holds Tryd.pinned (OpenSpec.upto crcJoinSpec)

/-- 'regattalaw11.CrcTwo', WHERE WHAT IT READS IS OF BULK AT MOST 1048576: true; the input reads as it did. -/
def crcTwoUptoRow : OpenClaim := { program := "ytfbepdlahaefgaadoor", sum := "d6ab7a11e1fb1944075435a9fccaf0f827d24e3aed0be16b70581df89746a30a", func := "regatta/regattalaw11.CrcTwo", spec := "crcTwo", named := ["regatta/crc.short"], apart := false, laid := [("regatta/crc.short", laid_regatta_crc_short)], narrowed := true }
def CrcTwoUptoSaid : Prop := crcTwoUptoRow.holds Tryd.pinned (OpenSpec.upto crcTwoSpec)

/-- 'regattalaw11.CrcBursts', WHERE WHAT IT READS IS OF BULK AT MOST 1048576: true; the input reads as it did. -/
def crcBurstsUptoRow : OpenClaim := { program := "ytfbepdlahaefgaadoor", sum := "d6ab7a11e1fb1944075435a9fccaf0f827d24e3aed0be16b70581df89746a30a", func := "regatta/regattalaw11.CrcBursts", spec := "crcBursts", named := ["regatta/crc.short"], apart := false, laid := [("regatta/crc.short", laid_regatta_crc_short)], narrowed := true }
def CrcBurstsUptoSaid : Prop := crcBurstsUptoRow.holds Tryd.pinned (OpenSpec.upto crcBurstsSpec)

/-- 'regattalaw11.CrcLaid', WHERE WHAT IT READS IS OF BULK AT MOST 1048576: true; the input reads as it did. -/
def crcLaidUptoRow : OpenClaim := { program := "ytfbepdlahaefgaadoor", sum := "d6ab7a11e1fb1944075435a9fccaf0f827d24e3aed0be16b70581df89746a30a", func := "regatta/regattalaw11.CrcLaid", spec := "crcLaid", named := ["regatta/crc.short"], apart := false, laid := [("regatta/crc.short", laid_regatta_crc_short)], narrowed := true }
def CrcLaidUptoSaid : Prop := crcLaidUptoRow.holds Tryd.pinned (OpenSpec.upto crcLaidSpec)

/-- 'regattalaw13.FrameSeals', WHERE WHAT IT READS IS OF BULK AT MOST 1048576: true; the input reads as it did. -/
def frameSealsUptoRow : OpenClaim := { program := "ytfbepdlahaefgaadoor", sum := "d6ab7a11e1fb1944075435a9fccaf0f827d24e3aed0be16b70581df89746a30a", func := "regatta/regattalaw13.FrameSeals", spec := "frameSeals", named := ["regatta/crc.short"], apart := false, laid := [("regatta/crc.short", laid_regatta_crc_short)], narrowed := true }
def FrameSealsUptoSaid : Prop := frameSealsUptoRow.holds Tryd.pinned (OpenSpec.upto frameSealsSpec)

/-- 'regattalaw13.FrameOpens', WHERE WHAT IT READS IS OF BULK AT MOST 1048576: true; the input reads as it did. -/
def frameOpensUptoRow : OpenClaim := { program := "ytfbepdlahaefgaadoor", sum := "d6ab7a11e1fb1944075435a9fccaf0f827d24e3aed0be16b70581df89746a30a", func := "regatta/regattalaw13.FrameOpens", spec := "frameOpens", named := ["regatta/crc.short"], apart := false, laid := [("regatta/crc.short", laid_regatta_crc_short)], narrowed := true }
def FrameOpensUptoSaid : Prop := frameOpensUptoRow.holds Tryd.pinned (OpenSpec.upto frameOpensSpec)

/-- 'regattalaw13.FrameLimits', WHERE WHAT IT READS IS OF BULK AT MOST 1048576: true; the input reads as it did. -/
def frameLimitsUptoRow : OpenClaim := { program := "ytfbepdlahaefgaadoor", sum := "d6ab7a11e1fb1944075435a9fccaf0f827d24e3aed0be16b70581df89746a30a", func := "regatta/regattalaw13.FrameLimits", spec := "frameLimits", named := ["regatta/crc.short"], apart := false, laid := [("regatta/crc.short", laid_regatta_crc_short)], narrowed := true }
def FrameLimitsUptoSaid : Prop := frameLimitsUptoRow.holds Tryd.pinned (OpenSpec.upto frameLimitsSpec)

/-- 'regattalaw13.FrameBack', WHERE WHAT IT READS IS OF BULK AT MOST 1048576: true; the input reads as it did. -/
def frameBackUptoRow : OpenClaim := { program := "ytfbepdlahaefgaadoor", sum := "d6ab7a11e1fb1944075435a9fccaf0f827d24e3aed0be16b70581df89746a30a", func := "regatta/regattalaw13.FrameBack", spec := "frameBack", named := ["regatta/crc.short"], apart := false, laid := [("regatta/crc.short", laid_regatta_crc_short)], narrowed := true }
def FrameBackUptoSaid : Prop := frameBackUptoRow.holds Tryd.pinned (OpenSpec.upto frameBackSpec)

/-- 'regattalaw13.FrameFlips', WHERE WHAT IT READS IS OF BULK AT MOST 1048576: true; the input reads as it did. -/
def frameFlipsUptoRow : OpenClaim := { program := "ytfbepdlahaefgaadoor", sum := "d6ab7a11e1fb1944075435a9fccaf0f827d24e3aed0be16b70581df89746a30a", func := "regatta/regattalaw13.FrameFlips", spec := "frameFlips", named := ["regatta/crc.short"], apart := false, laid := [("regatta/crc.short", laid_regatta_crc_short)], narrowed := true }
def FrameFlipsUptoSaid : Prop := frameFlipsUptoRow.holds Tryd.pinned (OpenSpec.upto frameFlipsSpec)

/-- 'regattalaw13.FrameHunts', WHERE WHAT IT READS IS OF BULK AT MOST 1048576: true; the input reads as it did. -/
def frameHuntsUptoRow : OpenClaim := { program := "ytfbepdlahaefgaadoor", sum := "d6ab7a11e1fb1944075435a9fccaf0f827d24e3aed0be16b70581df89746a30a", func := "regatta/regattalaw13.FrameHunts", spec := "frameHunts", unfollowed := true, recurses := true, named := ["regatta/crc.short"], apart := false, laid := [("regatta/crc.short", laid_regatta_crc_short)], narrowed := true }
def FrameHuntsUptoSaid : Prop := frameHuntsUptoRow.holds Tryd.pinned (OpenSpec.upto frameHuntsSpec)

/-- 'regattalaw13.FrameSplits', WHERE WHAT IT READS IS OF BULK AT MOST 1048576: true; the input reads as it did. -/
def frameSplitsUptoRow : OpenClaim := { program := "ytfbepdlahaefgaadoor", sum := "d6ab7a11e1fb1944075435a9fccaf0f827d24e3aed0be16b70581df89746a30a", func := "regatta/regattalaw13.FrameSplits", spec := "frameSplits", unfollowed := true, recurses := true, named := ["regatta/crc.short"], apart := false, laid := [("regatta/crc.short", laid_regatta_crc_short)], narrowed := true }
def FrameSplitsUptoSaid : Prop := frameSplitsUptoRow.holds Tryd.pinned (OpenSpec.upto frameSplitsSpec)

/-- 'regattalaw13.FrameRows', WHERE WHAT IT READS IS OF BULK AT MOST 1048576: true; the input reads as it did. -/
def frameRowsUptoRow : OpenClaim := { program := "ytfbepdlahaefgaadoor", sum := "d6ab7a11e1fb1944075435a9fccaf0f827d24e3aed0be16b70581df89746a30a", func := "regatta/regattalaw13.FrameRows", spec := "frameRows", unfollowed := true, recurses := true, named := ["regatta/crc.short"], apart := false, laid := [("regatta/crc.short", laid_regatta_crc_short)], narrowed := true }
def FrameRowsUptoSaid : Prop := frameRowsUptoRow.holds Tryd.pinned (OpenSpec.upto frameRowsSpec)

end Rows
end Go.Proofs.YtfbepdlahaefgaaDoor
