/-
  NARROWER THAN 'FOR EVERY INPUT', by the rows' own cells (each row's printed sentence says how): ShaSums: laid · ShaPieces: laid · ShaNil: laid · ShaApart: laid · JournalAgain: laid · HmacSums: laid · HmacKeys: laid · HmacParts: laid · HmacTags: laid · HmacOwn: laid · MerkleTrees: laid · MerkleChecks: laid · MerkleOwn: laid · MerkleNoOther: laid · MerkleRoots: laid.
  DERIVED. THE GIVEN ROWS OF THIS SEAT. 15 by the template 'for every input the law returns true; each argument reads behind the call as it read before'; 0 by the template 'total and deterministic' (their statements: YtelhoejoncnccaaDoorTotals.lean).
  GIVEN WITH THE SEED: the statements are not yours to turn. If you find one false, say at which input.
  Laid BY PROGRAM, IN A SANDBOX (cutbox-rows.mjs): the forced cells as the released guide's own fill.sh prints them over the translation cb230c117f3e5c18… (all of the seat's roots in one cut). By AI agents, Wed Nov 11 2026. No macro, syntax, notation, axiom, sorry.
-/
import Derived.Test.YtelhoejoncnccaaDoorChecked
import GoSem.PinnedTables
import GoSem.Claim
import GoSem.ClaimJoined
import GoSem.ClaimMapViews
import Derived.JoinedTies
import Derived.KernelRfl
namespace Go.Proofs.YtelhoejoncnccaaDoor
/- THE CELL 'sum', in the pinned program and in every row, IS THE sha256 OF THE DUMP (.gsa) THAT YtelhoejoncnccaaDoorProg.lean LOADS. Nothing in Lean hashes anything: it is a label: what it is worth is what the hold of that sum in a sandbox is worth. -/
noncomputable def Tryd.pinned : Pinned := { name := "ytelhoejoncnccaadoor", sum := "cb230c117f3e5c18f5938bb07ebb769b2f970edf86dc80ba21d4adac15f95ea6", checked := Tryd.checked }
namespace Rows
def none {H : Type} : Left H := { results := [], args := [] }

/- WHAT THE LISTED PACKAGE-LEVEL VARIABLES READ AS WHEN THE CALL BEGINS. Each datum BY PROGRAM (the guide's laid-datum.mjs) off the statement by which the dump's own 'gosem.cut.vars' lays the variable. In a bare row this is a premise. The card (YtelhoejoncnccaaDoorCards.lean) ties it to the program's text. -/
def laid_cofferdam_sha_constants {H : Type} : DataW H := .agg [.lit (.int .u32 1116352408), .lit (.int .u32 1899447441), .lit (.int .u32 3049323471), .lit (.int .u32 3921009573), .lit (.int .u32 961987163), .lit (.int .u32 1508970993), .lit (.int .u32 2453635748), .lit (.int .u32 2870763221), .lit (.int .u32 3624381080), .lit (.int .u32 310598401), .lit (.int .u32 607225278), .lit (.int .u32 1426881987), .lit (.int .u32 1925078388), .lit (.int .u32 2162078206), .lit (.int .u32 2614888103), .lit (.int .u32 3248222580), .lit (.int .u32 3835390401), .lit (.int .u32 4022224774), .lit (.int .u32 264347078), .lit (.int .u32 604807628), .lit (.int .u32 770255983), .lit (.int .u32 1249150122), .lit (.int .u32 1555081692), .lit (.int .u32 1996064986), .lit (.int .u32 2554220882), .lit (.int .u32 2821834349), .lit (.int .u32 2952996808), .lit (.int .u32 3210313671), .lit (.int .u32 3336571891), .lit (.int .u32 3584528711), .lit (.int .u32 113926993), .lit (.int .u32 338241895), .lit (.int .u32 666307205), .lit (.int .u32 773529912), .lit (.int .u32 1294757372), .lit (.int .u32 1396182291), .lit (.int .u32 1695183700), .lit (.int .u32 1986661051), .lit (.int .u32 2177026350), .lit (.int .u32 2456956037), .lit (.int .u32 2730485921), .lit (.int .u32 2820302411), .lit (.int .u32 3259730800), .lit (.int .u32 3345764771), .lit (.int .u32 3516065817), .lit (.int .u32 3600352804), .lit (.int .u32 4094571909), .lit (.int .u32 275423344), .lit (.int .u32 430227734), .lit (.int .u32 506948616), .lit (.int .u32 659060556), .lit (.int .u32 883997877), .lit (.int .u32 958139571), .lit (.int .u32 1322822218), .lit (.int .u32 1537002063), .lit (.int .u32 1747873779), .lit (.int .u32 1955562222), .lit (.int .u32 2024104815), .lit (.int .u32 2227730452), .lit (.int .u32 2361852424), .lit (.int .u32 2428436474), .lit (.int .u32 2756734187), .lit (.int .u32 3204031479), .lit (.int .u32 3329325298)]
def laid_unicode_utf8_acceptRanges {H : Type} : DataW H := .agg [.agg [.lit (.int .u8 128), .lit (.int .u8 191)], .agg [.lit (.int .u8 160), .lit (.int .u8 191)], .agg [.lit (.int .u8 128), .lit (.int .u8 159)], .agg [.lit (.int .u8 144), .lit (.int .u8 191)], .agg [.lit (.int .u8 128), .lit (.int .u8 143)], .agg [.lit (.int .u8 0), .lit (.int .u8 0)], .agg [.lit (.int .u8 0), .lit (.int .u8 0)], .agg [.lit (.int .u8 0), .lit (.int .u8 0)], .agg [.lit (.int .u8 0), .lit (.int .u8 0)], .agg [.lit (.int .u8 0), .lit (.int .u8 0)], .agg [.lit (.int .u8 0), .lit (.int .u8 0)], .agg [.lit (.int .u8 0), .lit (.int .u8 0)], .agg [.lit (.int .u8 0), .lit (.int .u8 0)], .agg [.lit (.int .u8 0), .lit (.int .u8 0)], .agg [.lit (.int .u8 0), .lit (.int .u8 0)], .agg [.lit (.int .u8 0), .lit (.int .u8 0)]]
/-- One of Go's own tables, pinned by name: the form's constant. -/
def laid_unicode_utf8_first : DataW Unit := Go.Pinned.utf8First

/-- 'cofferdamlaw02.ShaSums': WHATEVER THE INPUT: true; the input reads as it did. -/
def shaSumsSpec : ChangeSpec := { name := "shaSums", fn := fun _ => fun
  | [d] => { results := [.lit (.bool true)], args := [d] }
  | _ => none }
def shaSumsRow : OpenClaim := { program := "ytelhoejoncnccaadoor", sum := "cb230c117f3e5c18f5938bb07ebb769b2f970edf86dc80ba21d4adac15f95ea6", func := "cofferdam/cofferdamlaw02.ShaSums", spec := "shaSums", unfollowed := true, recurses := true, named := ["cofferdam/sha.constants"], apart := false, laid := [("cofferdam/sha.constants", laid_cofferdam_sha_constants)] }
def ShaSumsSaid : Prop := shaSumsRow.holds Tryd.pinned (OpenSpec.ofChange shaSumsSpec)

/-- ITS FALSE NEIGHBOUR: 'it returns false'. Refute it at one input. -/
def shaSumsWrong : ChangeSpec := { name := "shaSums", fn := fun _ => fun
  | [d] => { results := [.lit (.bool false)], args := [d] }
  | _ => none }
def ShaSumsWrongFalsely : Prop := shaSumsRow.holds Tryd.pinned (OpenSpec.ofChange shaSumsWrong)

/-- 'cofferdamlaw02.ShaPieces': WHATEVER THE INPUT: true; the input reads as it did. -/
def shaPiecesSpec : ChangeSpec := { name := "shaPieces", fn := fun _ => fun
  | [d] => { results := [.lit (.bool true)], args := [d] }
  | _ => none }
def shaPiecesRow : OpenClaim := { program := "ytelhoejoncnccaadoor", sum := "cb230c117f3e5c18f5938bb07ebb769b2f970edf86dc80ba21d4adac15f95ea6", func := "cofferdam/cofferdamlaw02.ShaPieces", spec := "shaPieces", unfollowed := true, recurses := true, named := ["cofferdam/sha.constants"], apart := false, laid := [("cofferdam/sha.constants", laid_cofferdam_sha_constants)] }
def ShaPiecesSaid : Prop := shaPiecesRow.holds Tryd.pinned (OpenSpec.ofChange shaPiecesSpec)

/-- ITS FALSE NEIGHBOUR: 'it returns false'. Refute it at one input. -/
def shaPiecesWrong : ChangeSpec := { name := "shaPieces", fn := fun _ => fun
  | [d] => { results := [.lit (.bool false)], args := [d] }
  | _ => none }
def ShaPiecesWrongFalsely : Prop := shaPiecesRow.holds Tryd.pinned (OpenSpec.ofChange shaPiecesWrong)

/-- 'cofferdamlaw02.ShaNil': WHATEVER THE INPUT: true; the input reads as it did. -/
def shaNilSpec : ChangeSpec := { name := "shaNil", fn := fun _ => fun
  | [d] => { results := [.lit (.bool true)], args := [d] }
  | _ => none }
def shaNilRow : OpenClaim := { program := "ytelhoejoncnccaadoor", sum := "cb230c117f3e5c18f5938bb07ebb769b2f970edf86dc80ba21d4adac15f95ea6", func := "cofferdam/cofferdamlaw02.ShaNil", spec := "shaNil", unfollowed := true, recurses := true, named := ["cofferdam/sha.constants"], apart := false, laid := [("cofferdam/sha.constants", laid_cofferdam_sha_constants)] }
def ShaNilSaid : Prop := shaNilRow.holds Tryd.pinned (OpenSpec.ofChange shaNilSpec)

/-- ITS FALSE NEIGHBOUR: 'it returns false'. Refute it at one input. -/
def shaNilWrong : ChangeSpec := { name := "shaNil", fn := fun _ => fun
  | [d] => { results := [.lit (.bool false)], args := [d] }
  | _ => none }
def ShaNilWrongFalsely : Prop := shaNilRow.holds Tryd.pinned (OpenSpec.ofChange shaNilWrong)

/-- 'cofferdamlaw02.ShaApart': WHATEVER THE INPUT: true; the input reads as it did. -/
def shaApartSpec : ChangeSpec := { name := "shaApart", fn := fun _ => fun
  | [d1, d2] => { results := [.lit (.bool true)], args := [d1, d2] }
  | _ => none }
def shaApartRow : OpenClaim := { program := "ytelhoejoncnccaadoor", sum := "cb230c117f3e5c18f5938bb07ebb769b2f970edf86dc80ba21d4adac15f95ea6", func := "cofferdam/cofferdamlaw02.ShaApart", spec := "shaApart", unfollowed := true, recurses := true, named := ["cofferdam/sha.constants"], apart := false, laid := [("cofferdam/sha.constants", laid_cofferdam_sha_constants)] }
def ShaApartSaid : Prop := shaApartRow.holds Tryd.pinned (OpenSpec.ofChange shaApartSpec)

/-- ITS FALSE NEIGHBOUR: 'it returns false'. Refute it at one input. -/
def shaApartWrong : ChangeSpec := { name := "shaApart", fn := fun _ => fun
  | [d1, d2] => { results := [.lit (.bool false)], args := [d1, d2] }
  | _ => none }
def ShaApartWrongFalsely : Prop := shaApartRow.holds Tryd.pinned (OpenSpec.ofChange shaApartWrong)

/-- 'cofferdamlaw09.JournalAgain': WHATEVER THE INPUT: true; the input reads as it did. -/
def journalAgainSpec : ChangeSpec := { name := "journalAgain", fn := fun _ => fun
  | [d] => { results := [.lit (.bool true)], args := [d] }
  | _ => none }
def journalAgainRow : OpenClaim := { program := "ytelhoejoncnccaadoor", sum := "cb230c117f3e5c18f5938bb07ebb769b2f970edf86dc80ba21d4adac15f95ea6", func := "cofferdam/cofferdamlaw09.JournalAgain", spec := "journalAgain", inPlace := ["maps.clone"], unfollowed := true, recurses := true, named := ["cofferdam/sha.constants", "unicode/utf8.first", "unicode/utf8.acceptRanges"], apart := false, laid := [("cofferdam/sha.constants", laid_cofferdam_sha_constants), ("unicode/utf8.acceptRanges", laid_unicode_utf8_acceptRanges), ("unicode/utf8.first", laid_unicode_utf8_first)] }
def JournalAgainSaid : Prop := journalAgainRow.holds Tryd.pinned (OpenSpec.ofChange journalAgainSpec)

/-- ITS FALSE NEIGHBOUR: 'it returns false'. Refute it at one input. -/
def journalAgainWrong : ChangeSpec := { name := "journalAgain", fn := fun _ => fun
  | [d] => { results := [.lit (.bool false)], args := [d] }
  | _ => none }
def JournalAgainWrongFalsely : Prop := journalAgainRow.holds Tryd.pinned (OpenSpec.ofChange journalAgainWrong)

/-- 'cofferdamlaw03.HmacSums': WHATEVER THE INPUT: true; the input reads as it did. -/
def hmacSumsSpec : ChangeSpec := { name := "hmacSums", fn := fun _ => fun
  | [d1, d2] => { results := [.lit (.bool true)], args := [d1, d2] }
  | _ => none }
def hmacSumsRow : OpenClaim := { program := "ytelhoejoncnccaadoor", sum := "cb230c117f3e5c18f5938bb07ebb769b2f970edf86dc80ba21d4adac15f95ea6", func := "cofferdam/cofferdamlaw03.HmacSums", spec := "hmacSums", unfollowed := true, recurses := true, named := ["cofferdam/sha.constants"], apart := false, laid := [("cofferdam/sha.constants", laid_cofferdam_sha_constants)] }
def HmacSumsSaid : Prop := hmacSumsRow.holds Tryd.pinned (OpenSpec.ofChange hmacSumsSpec)

/-- ITS FALSE NEIGHBOUR: 'it returns false'. Refute it at one input. -/
def hmacSumsWrong : ChangeSpec := { name := "hmacSums", fn := fun _ => fun
  | [d1, d2] => { results := [.lit (.bool false)], args := [d1, d2] }
  | _ => none }
def HmacSumsWrongFalsely : Prop := hmacSumsRow.holds Tryd.pinned (OpenSpec.ofChange hmacSumsWrong)

/-- 'cofferdamlaw03.HmacKeys': WHATEVER THE INPUT: true; the input reads as it did. -/
def hmacKeysSpec : ChangeSpec := { name := "hmacKeys", fn := fun _ => fun
  | [d1, d2, d3] => { results := [.lit (.bool true)], args := [d1, d2, d3] }
  | _ => none }
def hmacKeysRow : OpenClaim := { program := "ytelhoejoncnccaadoor", sum := "cb230c117f3e5c18f5938bb07ebb769b2f970edf86dc80ba21d4adac15f95ea6", func := "cofferdam/cofferdamlaw03.HmacKeys", spec := "hmacKeys", unfollowed := true, recurses := true, named := ["cofferdam/sha.constants"], apart := false, laid := [("cofferdam/sha.constants", laid_cofferdam_sha_constants)] }
def HmacKeysSaid : Prop := hmacKeysRow.holds Tryd.pinned (OpenSpec.ofChange hmacKeysSpec)

/-- ITS FALSE NEIGHBOUR: 'it returns false'. Refute it at one input. -/
def hmacKeysWrong : ChangeSpec := { name := "hmacKeys", fn := fun _ => fun
  | [d1, d2, d3] => { results := [.lit (.bool false)], args := [d1, d2, d3] }
  | _ => none }
def HmacKeysWrongFalsely : Prop := hmacKeysRow.holds Tryd.pinned (OpenSpec.ofChange hmacKeysWrong)

/-- 'cofferdamlaw03.HmacParts': WHATEVER THE INPUT: true; the input reads as it did. -/
def hmacPartsSpec : ChangeSpec := { name := "hmacParts", fn := fun _ => fun
  | [d] => { results := [.lit (.bool true)], args := [d] }
  | _ => none }
def hmacPartsRow : OpenClaim := { program := "ytelhoejoncnccaadoor", sum := "cb230c117f3e5c18f5938bb07ebb769b2f970edf86dc80ba21d4adac15f95ea6", func := "cofferdam/cofferdamlaw03.HmacParts", spec := "hmacParts", unfollowed := true, recurses := true, named := ["cofferdam/sha.constants"], apart := false, laid := [("cofferdam/sha.constants", laid_cofferdam_sha_constants)] }
def HmacPartsSaid : Prop := hmacPartsRow.holds Tryd.pinned (OpenSpec.ofChange hmacPartsSpec)

/-- ITS FALSE NEIGHBOUR: 'it returns false'. Refute it at one input. -/
def hmacPartsWrong : ChangeSpec := { name := "hmacParts", fn := fun _ => fun
  | [d] => { results := [.lit (.bool false)], args := [d] }
  | _ => none }
def HmacPartsWrongFalsely : Prop := hmacPartsRow.holds Tryd.pinned (OpenSpec.ofChange hmacPartsWrong)

/-- 'cofferdamlaw03.HmacTags': WHATEVER THE INPUT: true; the input reads as it did. -/
def hmacTagsSpec : ChangeSpec := { name := "hmacTags", fn := fun _ => fun
  | [d] => { results := [.lit (.bool true)], args := [d] }
  | _ => none }
def hmacTagsRow : OpenClaim := { program := "ytelhoejoncnccaadoor", sum := "cb230c117f3e5c18f5938bb07ebb769b2f970edf86dc80ba21d4adac15f95ea6", func := "cofferdam/cofferdamlaw03.HmacTags", spec := "hmacTags", unfollowed := true, recurses := true, named := ["cofferdam/sha.constants"], apart := false, laid := [("cofferdam/sha.constants", laid_cofferdam_sha_constants)] }
def HmacTagsSaid : Prop := hmacTagsRow.holds Tryd.pinned (OpenSpec.ofChange hmacTagsSpec)

/-- ITS FALSE NEIGHBOUR: 'it returns false'. Refute it at one input. -/
def hmacTagsWrong : ChangeSpec := { name := "hmacTags", fn := fun _ => fun
  | [d] => { results := [.lit (.bool false)], args := [d] }
  | _ => none }
def HmacTagsWrongFalsely : Prop := hmacTagsRow.holds Tryd.pinned (OpenSpec.ofChange hmacTagsWrong)

/-- 'cofferdamlaw03.HmacOwn': WHATEVER THE INPUT: true; the input reads as it did. -/
def hmacOwnSpec : ChangeSpec := { name := "hmacOwn", fn := fun _ => fun
  | [d1, d2, d3] => { results := [.lit (.bool true)], args := [d1, d2, d3] }
  | _ => none }
def hmacOwnRow : OpenClaim := { program := "ytelhoejoncnccaadoor", sum := "cb230c117f3e5c18f5938bb07ebb769b2f970edf86dc80ba21d4adac15f95ea6", func := "cofferdam/cofferdamlaw03.HmacOwn", spec := "hmacOwn", unfollowed := true, recurses := true, named := ["cofferdam/sha.constants"], apart := false, laid := [("cofferdam/sha.constants", laid_cofferdam_sha_constants)] }
def HmacOwnSaid : Prop := hmacOwnRow.holds Tryd.pinned (OpenSpec.ofChange hmacOwnSpec)

/-- ITS FALSE NEIGHBOUR: 'it returns false'. Refute it at one input. -/
def hmacOwnWrong : ChangeSpec := { name := "hmacOwn", fn := fun _ => fun
  | [d1, d2, d3] => { results := [.lit (.bool false)], args := [d1, d2, d3] }
  | _ => none }
def HmacOwnWrongFalsely : Prop := hmacOwnRow.holds Tryd.pinned (OpenSpec.ofChange hmacOwnWrong)

/-- 'cofferdamlaw06.MerkleTrees': WHATEVER THE INPUT: true; the input reads as it did. -/
def merkleTreesSpec : ChangeSpec := { name := "merkleTrees", fn := fun _ => fun
  | [d] => { results := [.lit (.bool true)], args := [d] }
  | _ => none }
def merkleTreesRow : OpenClaim := { program := "ytelhoejoncnccaadoor", sum := "cb230c117f3e5c18f5938bb07ebb769b2f970edf86dc80ba21d4adac15f95ea6", func := "cofferdam/cofferdamlaw06.MerkleTrees", spec := "merkleTrees", unfollowed := true, recurses := true, named := ["cofferdam/sha.constants"], apart := false, laid := [("cofferdam/sha.constants", laid_cofferdam_sha_constants)] }
def MerkleTreesSaid : Prop := merkleTreesRow.holds Tryd.pinned (OpenSpec.ofChange merkleTreesSpec)

/-- ITS FALSE NEIGHBOUR: 'it returns false'. Refute it at one input. -/
def merkleTreesWrong : ChangeSpec := { name := "merkleTrees", fn := fun _ => fun
  | [d] => { results := [.lit (.bool false)], args := [d] }
  | _ => none }
def MerkleTreesWrongFalsely : Prop := merkleTreesRow.holds Tryd.pinned (OpenSpec.ofChange merkleTreesWrong)

/-- 'cofferdamlaw06.MerkleChecks': WHATEVER THE INPUT: true; the input reads as it did. -/
def merkleChecksSpec : ChangeSpec := { name := "merkleChecks", fn := fun _ => fun
  | [d] => { results := [.lit (.bool true)], args := [d] }
  | _ => none }
def merkleChecksRow : OpenClaim := { program := "ytelhoejoncnccaadoor", sum := "cb230c117f3e5c18f5938bb07ebb769b2f970edf86dc80ba21d4adac15f95ea6", func := "cofferdam/cofferdamlaw06.MerkleChecks", spec := "merkleChecks", unfollowed := true, recurses := true, named := ["cofferdam/sha.constants"], apart := false, laid := [("cofferdam/sha.constants", laid_cofferdam_sha_constants)] }
def MerkleChecksSaid : Prop := merkleChecksRow.holds Tryd.pinned (OpenSpec.ofChange merkleChecksSpec)

/-- ITS FALSE NEIGHBOUR: 'it returns false'. Refute it at one input. -/
def merkleChecksWrong : ChangeSpec := { name := "merkleChecks", fn := fun _ => fun
  | [d] => { results := [.lit (.bool false)], args := [d] }
  | _ => none }
def MerkleChecksWrongFalsely : Prop := merkleChecksRow.holds Tryd.pinned (OpenSpec.ofChange merkleChecksWrong)

/-- 'cofferdamlaw06.MerkleOwn': WHATEVER THE INPUT: true; the input reads as it did. -/
def merkleOwnSpec : ChangeSpec := { name := "merkleOwn", fn := fun _ => fun
  | [d] => { results := [.lit (.bool true)], args := [d] }
  | _ => none }
def merkleOwnRow : OpenClaim := { program := "ytelhoejoncnccaadoor", sum := "cb230c117f3e5c18f5938bb07ebb769b2f970edf86dc80ba21d4adac15f95ea6", func := "cofferdam/cofferdamlaw06.MerkleOwn", spec := "merkleOwn", unfollowed := true, recurses := true, named := ["cofferdam/sha.constants"], apart := false, laid := [("cofferdam/sha.constants", laid_cofferdam_sha_constants)] }
def MerkleOwnSaid : Prop := merkleOwnRow.holds Tryd.pinned (OpenSpec.ofChange merkleOwnSpec)

/-- ITS FALSE NEIGHBOUR: 'it returns false'. Refute it at one input. -/
def merkleOwnWrong : ChangeSpec := { name := "merkleOwn", fn := fun _ => fun
  | [d] => { results := [.lit (.bool false)], args := [d] }
  | _ => none }
def MerkleOwnWrongFalsely : Prop := merkleOwnRow.holds Tryd.pinned (OpenSpec.ofChange merkleOwnWrong)

/-- 'cofferdamlaw06.MerkleNoOther': WHATEVER THE INPUT: true; the input reads as it did. -/
def merkleNoOtherSpec : ChangeSpec := { name := "merkleNoOther", fn := fun _ => fun
  | [d1, d2, d3] => { results := [.lit (.bool true)], args := [d1, d2, d3] }
  | _ => none }
def merkleNoOtherRow : OpenClaim := { program := "ytelhoejoncnccaadoor", sum := "cb230c117f3e5c18f5938bb07ebb769b2f970edf86dc80ba21d4adac15f95ea6", func := "cofferdam/cofferdamlaw06.MerkleNoOther", spec := "merkleNoOther", unfollowed := true, recurses := true, named := ["cofferdam/sha.constants"], apart := false, laid := [("cofferdam/sha.constants", laid_cofferdam_sha_constants)] }
def MerkleNoOtherSaid : Prop := merkleNoOtherRow.holds Tryd.pinned (OpenSpec.ofChange merkleNoOtherSpec)

/-- ITS FALSE NEIGHBOUR: 'it returns false'. Refute it at one input. -/
def merkleNoOtherWrong : ChangeSpec := { name := "merkleNoOther", fn := fun _ => fun
  | [d1, d2, d3] => { results := [.lit (.bool false)], args := [d1, d2, d3] }
  | _ => none }
def MerkleNoOtherWrongFalsely : Prop := merkleNoOtherRow.holds Tryd.pinned (OpenSpec.ofChange merkleNoOtherWrong)

/-- 'cofferdamlaw06.MerkleRoots': WHATEVER THE INPUT: true; the input reads as it did. -/
def merkleRootsSpec : ChangeSpec := { name := "merkleRoots", fn := fun _ => fun
  | [d1, d2, d3] => { results := [.lit (.bool true)], args := [d1, d2, d3] }
  | _ => none }
def merkleRootsRow : OpenClaim := { program := "ytelhoejoncnccaadoor", sum := "cb230c117f3e5c18f5938bb07ebb769b2f970edf86dc80ba21d4adac15f95ea6", func := "cofferdam/cofferdamlaw06.MerkleRoots", spec := "merkleRoots", unfollowed := true, recurses := true, named := ["cofferdam/sha.constants"], apart := false, laid := [("cofferdam/sha.constants", laid_cofferdam_sha_constants)] }
def MerkleRootsSaid : Prop := merkleRootsRow.holds Tryd.pinned (OpenSpec.ofChange merkleRootsSpec)

/-- ITS FALSE NEIGHBOUR: 'it returns false'. Refute it at one input. -/
def merkleRootsWrong : ChangeSpec := { name := "merkleRoots", fn := fun _ => fun
  | [d1, d2, d3] => { results := [.lit (.bool false)], args := [d1, d2, d3] }
  | _ => none }
def MerkleRootsWrongFalsely : Prop := merkleRootsRow.holds Tryd.pinned (OpenSpec.ofChange merkleRootsWrong)

/- THE SECOND FORM. 'bulk': how many values and letters a reading holds, each counted each time it is reached (what is shared counts as often as it is met; a slice's spare places count too). A statement '..UptoSaid' is the law's where the arguments, and the package variables that the reading takes, are together of bulk at most 1048576: NARROWER than '..Said'. Prove '..Said' where nothing that the law and all that it calls make is longer than what came in: it says more and counts as full. Else prove '..UptoSaid'. A law counts once. -/
mutual
def uptoBulk {H : Type} : DataW H → Nat
  | .lit (.string bytes) => bytes.length + 1
  | .lit _ => 1
  | .nil => 1
  | .ptr d => uptoBulk d + 1
  | .slice elems spare => uptoBulkAll elems + uptoBulkAll spare + 1
  | .agg parts => uptoBulkAll parts + 1
  | .iface _ d => uptoBulk d + 1
  | .map entries => uptoBulkEntries entries + 1
  | .held _ => 1
def uptoBulkAll {H : Type} : List (DataW H) → Nat
  | [] => 0
  | d :: r => uptoBulk d + uptoBulkAll r
def uptoBulkEntries {H : Type} : List (Lit × DataW H) → Nat
  | [] => 0
  | x :: r => uptoBulkEntry x + uptoBulkEntries r
def uptoBulkEntry {H : Type} : Lit × DataW H → Nat
  | (.string bytes, d) => bytes.length + uptoBulk d + 1
  | (_, d) => uptoBulk d + 1
 end
def uptoSmall : (H : Type) → List (DataW H) → Bool := fun _ ds => decide (uptoBulkAll ds ≤ 1048576)
def OpenSpec.upto (s : _root_.Go.ChangeSpec) : _root_.Go.OpenSpec := { _root_.Go.OpenSpec.ofChange s with cond := some uptoSmall }

/-- 'cofferdamlaw02.ShaSums', WHERE WHAT IT READS IS OF BULK AT MOST 1048576: true; the input reads as it did. -/
def shaSumsUptoRow : OpenClaim := { program := "ytelhoejoncnccaadoor", sum := "cb230c117f3e5c18f5938bb07ebb769b2f970edf86dc80ba21d4adac15f95ea6", func := "cofferdam/cofferdamlaw02.ShaSums", spec := "shaSums", unfollowed := true, recurses := true, named := ["cofferdam/sha.constants"], apart := false, laid := [("cofferdam/sha.constants", laid_cofferdam_sha_constants)], narrowed := true }
def ShaSumsUptoSaid : Prop := shaSumsUptoRow.holds Tryd.pinned (OpenSpec.upto shaSumsSpec)

/-- 'cofferdamlaw02.ShaPieces', WHERE WHAT IT READS IS OF BULK AT MOST 1048576: true; the input reads as it did. -/
def shaPiecesUptoRow : OpenClaim := { program := "ytelhoejoncnccaadoor", sum := "cb230c117f3e5c18f5938bb07ebb769b2f970edf86dc80ba21d4adac15f95ea6", func := "cofferdam/cofferdamlaw02.ShaPieces", spec := "shaPieces", unfollowed := true, recurses := true, named := ["cofferdam/sha.constants"], apart := false, laid := [("cofferdam/sha.constants", laid_cofferdam_sha_constants)], narrowed := true }
def ShaPiecesUptoSaid : Prop := shaPiecesUptoRow.holds Tryd.pinned (OpenSpec.upto shaPiecesSpec)

/-- 'cofferdamlaw02.ShaNil', WHERE WHAT IT READS IS OF BULK AT MOST 1048576: true; the input reads as it did. -/
def shaNilUptoRow : OpenClaim := { program := "ytelhoejoncnccaadoor", sum := "cb230c117f3e5c18f5938bb07ebb769b2f970edf86dc80ba21d4adac15f95ea6", func := "cofferdam/cofferdamlaw02.ShaNil", spec := "shaNil", unfollowed := true, recurses := true, named := ["cofferdam/sha.constants"], apart := false, laid := [("cofferdam/sha.constants", laid_cofferdam_sha_constants)], narrowed := true }
def ShaNilUptoSaid : Prop := shaNilUptoRow.holds Tryd.pinned (OpenSpec.upto shaNilSpec)

/-- 'cofferdamlaw02.ShaApart', WHERE WHAT IT READS IS OF BULK AT MOST 1048576: true; the input reads as it did. -/
def shaApartUptoRow : OpenClaim := { program := "ytelhoejoncnccaadoor", sum := "cb230c117f3e5c18f5938bb07ebb769b2f970edf86dc80ba21d4adac15f95ea6", func := "cofferdam/cofferdamlaw02.ShaApart", spec := "shaApart", unfollowed := true, recurses := true, named := ["cofferdam/sha.constants"], apart := false, laid := [("cofferdam/sha.constants", laid_cofferdam_sha_constants)], narrowed := true }
def ShaApartUptoSaid : Prop := shaApartUptoRow.holds Tryd.pinned (OpenSpec.upto shaApartSpec)

/-- 'cofferdamlaw09.JournalAgain', WHERE WHAT IT READS IS OF BULK AT MOST 1048576: true; the input reads as it did. -/
def journalAgainUptoRow : OpenClaim := { program := "ytelhoejoncnccaadoor", sum := "cb230c117f3e5c18f5938bb07ebb769b2f970edf86dc80ba21d4adac15f95ea6", func := "cofferdam/cofferdamlaw09.JournalAgain", spec := "journalAgain", inPlace := ["maps.clone"], unfollowed := true, recurses := true, named := ["cofferdam/sha.constants", "unicode/utf8.first", "unicode/utf8.acceptRanges"], apart := false, laid := [("cofferdam/sha.constants", laid_cofferdam_sha_constants), ("unicode/utf8.acceptRanges", laid_unicode_utf8_acceptRanges), ("unicode/utf8.first", laid_unicode_utf8_first)], narrowed := true }
def JournalAgainUptoSaid : Prop := journalAgainUptoRow.holds Tryd.pinned (OpenSpec.upto journalAgainSpec)

/-- 'cofferdamlaw03.HmacSums', WHERE WHAT IT READS IS OF BULK AT MOST 1048576: true; the input reads as it did. -/
def hmacSumsUptoRow : OpenClaim := { program := "ytelhoejoncnccaadoor", sum := "cb230c117f3e5c18f5938bb07ebb769b2f970edf86dc80ba21d4adac15f95ea6", func := "cofferdam/cofferdamlaw03.HmacSums", spec := "hmacSums", unfollowed := true, recurses := true, named := ["cofferdam/sha.constants"], apart := false, laid := [("cofferdam/sha.constants", laid_cofferdam_sha_constants)], narrowed := true }
def HmacSumsUptoSaid : Prop := hmacSumsUptoRow.holds Tryd.pinned (OpenSpec.upto hmacSumsSpec)

/-- 'cofferdamlaw03.HmacKeys', WHERE WHAT IT READS IS OF BULK AT MOST 1048576: true; the input reads as it did. -/
def hmacKeysUptoRow : OpenClaim := { program := "ytelhoejoncnccaadoor", sum := "cb230c117f3e5c18f5938bb07ebb769b2f970edf86dc80ba21d4adac15f95ea6", func := "cofferdam/cofferdamlaw03.HmacKeys", spec := "hmacKeys", unfollowed := true, recurses := true, named := ["cofferdam/sha.constants"], apart := false, laid := [("cofferdam/sha.constants", laid_cofferdam_sha_constants)], narrowed := true }
def HmacKeysUptoSaid : Prop := hmacKeysUptoRow.holds Tryd.pinned (OpenSpec.upto hmacKeysSpec)

/-- 'cofferdamlaw03.HmacParts', WHERE WHAT IT READS IS OF BULK AT MOST 1048576: true; the input reads as it did. -/
def hmacPartsUptoRow : OpenClaim := { program := "ytelhoejoncnccaadoor", sum := "cb230c117f3e5c18f5938bb07ebb769b2f970edf86dc80ba21d4adac15f95ea6", func := "cofferdam/cofferdamlaw03.HmacParts", spec := "hmacParts", unfollowed := true, recurses := true, named := ["cofferdam/sha.constants"], apart := false, laid := [("cofferdam/sha.constants", laid_cofferdam_sha_constants)], narrowed := true }
def HmacPartsUptoSaid : Prop := hmacPartsUptoRow.holds Tryd.pinned (OpenSpec.upto hmacPartsSpec)

/-- 'cofferdamlaw03.HmacTags', WHERE WHAT IT READS IS OF BULK AT MOST 1048576: true; the input reads as it did. -/
def hmacTagsUptoRow : OpenClaim := { program := "ytelhoejoncnccaadoor", sum := "cb230c117f3e5c18f5938bb07ebb769b2f970edf86dc80ba21d4adac15f95ea6", func := "cofferdam/cofferdamlaw03.HmacTags", spec := "hmacTags", unfollowed := true, recurses := true, named := ["cofferdam/sha.constants"], apart := false, laid := [("cofferdam/sha.constants", laid_cofferdam_sha_constants)], narrowed := true }
def HmacTagsUptoSaid : Prop := hmacTagsUptoRow.holds Tryd.pinned (OpenSpec.upto hmacTagsSpec)

/-- 'cofferdamlaw03.HmacOwn', WHERE WHAT IT READS IS OF BULK AT MOST 1048576: true; the input reads as it did. -/
def hmacOwnUptoRow : OpenClaim := { program := "ytelhoejoncnccaadoor", sum := "cb230c117f3e5c18f5938bb07ebb769b2f970edf86dc80ba21d4adac15f95ea6", func := "cofferdam/cofferdamlaw03.HmacOwn", spec := "hmacOwn", unfollowed := true, recurses := true, named := ["cofferdam/sha.constants"], apart := false, laid := [("cofferdam/sha.constants", laid_cofferdam_sha_constants)], narrowed := true }
def HmacOwnUptoSaid : Prop := hmacOwnUptoRow.holds Tryd.pinned (OpenSpec.upto hmacOwnSpec)

/-- 'cofferdamlaw06.MerkleTrees', WHERE WHAT IT READS IS OF BULK AT MOST 1048576: true; the input reads as it did. -/
def merkleTreesUptoRow : OpenClaim := { program := "ytelhoejoncnccaadoor", sum := "cb230c117f3e5c18f5938bb07ebb769b2f970edf86dc80ba21d4adac15f95ea6", func := "cofferdam/cofferdamlaw06.MerkleTrees", spec := "merkleTrees", unfollowed := true, recurses := true, named := ["cofferdam/sha.constants"], apart := false, laid := [("cofferdam/sha.constants", laid_cofferdam_sha_constants)], narrowed := true }
def MerkleTreesUptoSaid : Prop := merkleTreesUptoRow.holds Tryd.pinned (OpenSpec.upto merkleTreesSpec)

/-- 'cofferdamlaw06.MerkleChecks', WHERE WHAT IT READS IS OF BULK AT MOST 1048576: true; the input reads as it did. -/
def merkleChecksUptoRow : OpenClaim := { program := "ytelhoejoncnccaadoor", sum := "cb230c117f3e5c18f5938bb07ebb769b2f970edf86dc80ba21d4adac15f95ea6", func := "cofferdam/cofferdamlaw06.MerkleChecks", spec := "merkleChecks", unfollowed := true, recurses := true, named := ["cofferdam/sha.constants"], apart := false, laid := [("cofferdam/sha.constants", laid_cofferdam_sha_constants)], narrowed := true }
def MerkleChecksUptoSaid : Prop := merkleChecksUptoRow.holds Tryd.pinned (OpenSpec.upto merkleChecksSpec)

/-- 'cofferdamlaw06.MerkleOwn', WHERE WHAT IT READS IS OF BULK AT MOST 1048576: true; the input reads as it did. -/
def merkleOwnUptoRow : OpenClaim := { program := "ytelhoejoncnccaadoor", sum := "cb230c117f3e5c18f5938bb07ebb769b2f970edf86dc80ba21d4adac15f95ea6", func := "cofferdam/cofferdamlaw06.MerkleOwn", spec := "merkleOwn", unfollowed := true, recurses := true, named := ["cofferdam/sha.constants"], apart := false, laid := [("cofferdam/sha.constants", laid_cofferdam_sha_constants)], narrowed := true }
def MerkleOwnUptoSaid : Prop := merkleOwnUptoRow.holds Tryd.pinned (OpenSpec.upto merkleOwnSpec)

/-- 'cofferdamlaw06.MerkleNoOther', WHERE WHAT IT READS IS OF BULK AT MOST 1048576: true; the input reads as it did. -/
def merkleNoOtherUptoRow : OpenClaim := { program := "ytelhoejoncnccaadoor", sum := "cb230c117f3e5c18f5938bb07ebb769b2f970edf86dc80ba21d4adac15f95ea6", func := "cofferdam/cofferdamlaw06.MerkleNoOther", spec := "merkleNoOther", unfollowed := true, recurses := true, named := ["cofferdam/sha.constants"], apart := false, laid := [("cofferdam/sha.constants", laid_cofferdam_sha_constants)], narrowed := true }
def MerkleNoOtherUptoSaid : Prop := merkleNoOtherUptoRow.holds Tryd.pinned (OpenSpec.upto merkleNoOtherSpec)

/-- 'cofferdamlaw06.MerkleRoots', WHERE WHAT IT READS IS OF BULK AT MOST 1048576: true; the input reads as it did. -/
def merkleRootsUptoRow : OpenClaim := { program := "ytelhoejoncnccaadoor", sum := "cb230c117f3e5c18f5938bb07ebb769b2f970edf86dc80ba21d4adac15f95ea6", func := "cofferdam/cofferdamlaw06.MerkleRoots", spec := "merkleRoots", unfollowed := true, recurses := true, named := ["cofferdam/sha.constants"], apart := false, laid := [("cofferdam/sha.constants", laid_cofferdam_sha_constants)], narrowed := true }
def MerkleRootsUptoSaid : Prop := merkleRootsUptoRow.holds Tryd.pinned (OpenSpec.upto merkleRootsSpec)

end Rows
end Go.Proofs.YtelhoejoncnccaaDoor
