/-
  No cell of these rows narrows 'for every input' (looked for: loops, veiled, ifaces, maps, wideKeys, modest, calm, conditions, laid).
  DERIVED. THE GIVEN ROWS OF THIS SEAT. 31 by the template 'for every input the law returns true; each argument reads behind the call as it read before'; 0 by the template 'total and deterministic' (their statements: YtcapjjmikapmfaaTotals.lean).
  GIVEN WITH THE SEED: the statements are not yours to turn. If you find one false, say at which input.
  Laid BY PROGRAM, IN A SANDBOX (cutbox-rows.mjs): the forced cells as the released guide's own fill.sh prints them over the translation c1e494c10ae4c6d1… (all of the seat's roots in one cut). By AI agents, Wed Nov 11 2026. No macro, syntax, notation, axiom, sorry.
-/
import Derived.Test.YtcapjjmikapmfaaChecked
import GoSem.Claim
import GoSem.ClaimJoined
import GoSem.ClaimMapViews
import Derived.JoinedTies
import Derived.KernelRfl
namespace Go.Proofs.Ytcapjjmikapmfaa
/- THE CELL 'sum', in the pinned program and in every row, IS THE sha256 OF THE DUMP (.gsa) THAT YtcapjjmikapmfaaProg.lean LOADS. Nothing in Lean hashes anything: it is a label: what it is worth is what the hold of that sum in a sandbox is worth. -/
noncomputable def Try.pinned : Pinned := { name := "ytcapjjmikapmfaa", sum := "c1e494c10ae4c6d1fd701c25e696c119d02c4991d73d8df1bfe468992d7cfdd2", checked := Try.checked }
namespace Rows
def none {H : Type} : Left H := { results := [], args := [] }

/-- 'sapperlaw7.ChachaQuarters': WHATEVER THE INPUT: true; the input reads as it did. -/
def chachaQuartersSpec : ChangeSpec := { name := "chachaQuarters", fn := fun _ => fun
  | [d1, d2, d3, d4] => { results := [.lit (.bool true)], args := [d1, d2, d3, d4] }
  | _ => none }
def chachaQuartersRow : OpenClaim := { program := "ytcapjjmikapmfaa", sum := "c1e494c10ae4c6d1fd701c25e696c119d02c4991d73d8df1bfe468992d7cfdd2", func := "sapper/sapperlaw7.ChachaQuarters", spec := "chachaQuarters", apart := false }
def ChachaQuartersSaid : Prop := chachaQuartersRow.holds Try.pinned (OpenSpec.ofChange chachaQuartersSpec)

/-- ITS FALSE NEIGHBOUR: 'it returns false'. Refute it at one input. -/
def chachaQuartersWrong : ChangeSpec := { name := "chachaQuarters", fn := fun _ => fun
  | [d1, d2, d3, d4] => { results := [.lit (.bool false)], args := [d1, d2, d3, d4] }
  | _ => none }
def ChachaQuartersWrongFalsely : Prop := chachaQuartersRow.holds Try.pinned (OpenSpec.ofChange chachaQuartersWrong)

/-- 'sapperlaw1.WordTurns': WHATEVER THE INPUT: true; the input reads as it did. -/
def wordTurnsSpec : ChangeSpec := { name := "wordTurns", fn := fun _ => fun
  | [d1, d2, d3] => { results := [.lit (.bool true)], args := [d1, d2, d3] }
  | _ => none }
def wordTurnsRow : OpenClaim := { program := "ytcapjjmikapmfaa", sum := "c1e494c10ae4c6d1fd701c25e696c119d02c4991d73d8df1bfe468992d7cfdd2", func := "sapper/sapperlaw1.WordTurns", spec := "wordTurns", apart := false }
def WordTurnsSaid : Prop := wordTurnsRow.holds Try.pinned (OpenSpec.ofChange wordTurnsSpec)

/-- ITS FALSE NEIGHBOUR: 'it returns false'. Refute it at one input. -/
def wordTurnsWrong : ChangeSpec := { name := "wordTurns", fn := fun _ => fun
  | [d1, d2, d3] => { results := [.lit (.bool false)], args := [d1, d2, d3] }
  | _ => none }
def WordTurnsWrongFalsely : Prop := wordTurnsRow.holds Try.pinned (OpenSpec.ofChange wordTurnsWrong)

/-- 'sapperlaw17.QuotaPlays': WHATEVER THE INPUT: true; the input reads as it did. -/
def quotaPlaysSpec : ChangeSpec := { name := "quotaPlays", fn := fun _ => fun
  | [d1, d2] => { results := [.lit (.bool true)], args := [d1, d2] }
  | _ => none }
def quotaPlaysRow : OpenClaim := { program := "ytcapjjmikapmfaa", sum := "c1e494c10ae4c6d1fd701c25e696c119d02c4991d73d8df1bfe468992d7cfdd2", func := "sapper/sapperlaw17.QuotaPlays", spec := "quotaPlays", apart := false }
def QuotaPlaysSaid : Prop := quotaPlaysRow.holds Try.pinned (OpenSpec.ofChange quotaPlaysSpec)

/-- ITS FALSE NEIGHBOUR: 'it returns false'. Refute it at one input. -/
def quotaPlaysWrong : ChangeSpec := { name := "quotaPlays", fn := fun _ => fun
  | [d1, d2] => { results := [.lit (.bool false)], args := [d1, d2] }
  | _ => none }
def QuotaPlaysWrongFalsely : Prop := quotaPlaysRow.holds Try.pinned (OpenSpec.ofChange quotaPlaysWrong)

/-- 'sapperlaw17.QuotaNil': WHATEVER THE INPUT: true; the input reads as it did. -/
def quotaNilSpec : ChangeSpec := { name := "quotaNil", fn := fun _ => fun
  | [d] => { results := [.lit (.bool true)], args := [d] }
  | _ => none }
def quotaNilRow : OpenClaim := { program := "ytcapjjmikapmfaa", sum := "c1e494c10ae4c6d1fd701c25e696c119d02c4991d73d8df1bfe468992d7cfdd2", func := "sapper/sapperlaw17.QuotaNil", spec := "quotaNil", apart := false }
def QuotaNilSaid : Prop := quotaNilRow.holds Try.pinned (OpenSpec.ofChange quotaNilSpec)

/-- ITS FALSE NEIGHBOUR: 'it returns false'. Refute it at one input. -/
def quotaNilWrong : ChangeSpec := { name := "quotaNil", fn := fun _ => fun
  | [d] => { results := [.lit (.bool false)], args := [d] }
  | _ => none }
def QuotaNilWrongFalsely : Prop := quotaNilRow.holds Try.pinned (OpenSpec.ofChange quotaNilWrong)

/-- 'sapperlaw17.QuotaApart': WHATEVER THE INPUT: true; the input reads as it did. -/
def quotaApartSpec : ChangeSpec := { name := "quotaApart", fn := fun _ => fun
  | [d1, d2] => { results := [.lit (.bool true)], args := [d1, d2] }
  | _ => none }
def quotaApartRow : OpenClaim := { program := "ytcapjjmikapmfaa", sum := "c1e494c10ae4c6d1fd701c25e696c119d02c4991d73d8df1bfe468992d7cfdd2", func := "sapper/sapperlaw17.QuotaApart", spec := "quotaApart", apart := false }
def QuotaApartSaid : Prop := quotaApartRow.holds Try.pinned (OpenSpec.ofChange quotaApartSpec)

/-- ITS FALSE NEIGHBOUR: 'it returns false'. Refute it at one input. -/
def quotaApartWrong : ChangeSpec := { name := "quotaApart", fn := fun _ => fun
  | [d1, d2] => { results := [.lit (.bool false)], args := [d1, d2] }
  | _ => none }
def QuotaApartWrongFalsely : Prop := quotaApartRow.holds Try.pinned (OpenSpec.ofChange quotaApartWrong)

/-- 'sapperlaw17.QuotaSums': WHATEVER THE INPUT: true; the input reads as it did. -/
def quotaSumsSpec : ChangeSpec := { name := "quotaSums", fn := fun _ => fun
  | [d] => { results := [.lit (.bool true)], args := [d] }
  | _ => none }
def quotaSumsRow : OpenClaim := { program := "ytcapjjmikapmfaa", sum := "c1e494c10ae4c6d1fd701c25e696c119d02c4991d73d8df1bfe468992d7cfdd2", func := "sapper/sapperlaw17.QuotaSums", spec := "quotaSums", apart := false }
def QuotaSumsSaid : Prop := quotaSumsRow.holds Try.pinned (OpenSpec.ofChange quotaSumsSpec)

/-- ITS FALSE NEIGHBOUR: 'it returns false'. Refute it at one input. -/
def quotaSumsWrong : ChangeSpec := { name := "quotaSums", fn := fun _ => fun
  | [d] => { results := [.lit (.bool false)], args := [d] }
  | _ => none }
def QuotaSumsWrongFalsely : Prop := quotaSumsRow.holds Try.pinned (OpenSpec.ofChange quotaSumsWrong)

/-- 'sapperlaw11.PadForms': WHATEVER THE INPUT: true; the input reads as it did. -/
def padFormsSpec : ChangeSpec := { name := "padForms", fn := fun _ => fun
  | [d1, d2, d3, d4] => { results := [.lit (.bool true)], args := [d1, d2, d3, d4] }
  | _ => none }
def padFormsRow : OpenClaim := { program := "ytcapjjmikapmfaa", sum := "c1e494c10ae4c6d1fd701c25e696c119d02c4991d73d8df1bfe468992d7cfdd2", func := "sapper/sapperlaw11.PadForms", spec := "padForms", apart := false }
def PadFormsSaid : Prop := padFormsRow.holds Try.pinned (OpenSpec.ofChange padFormsSpec)

/-- ITS FALSE NEIGHBOUR: 'it returns false'. Refute it at one input. -/
def padFormsWrong : ChangeSpec := { name := "padForms", fn := fun _ => fun
  | [d1, d2, d3, d4] => { results := [.lit (.bool false)], args := [d1, d2, d3, d4] }
  | _ => none }
def PadFormsWrongFalsely : Prop := padFormsRow.holds Try.pinned (OpenSpec.ofChange padFormsWrong)

/-- 'sapperlaw11.PadBack': WHATEVER THE INPUT: true; the input reads as it did. -/
def padBackSpec : ChangeSpec := { name := "padBack", fn := fun _ => fun
  | [d1, d2] => { results := [.lit (.bool true)], args := [d1, d2] }
  | _ => none }
def padBackRow : OpenClaim := { program := "ytcapjjmikapmfaa", sum := "c1e494c10ae4c6d1fd701c25e696c119d02c4991d73d8df1bfe468992d7cfdd2", func := "sapper/sapperlaw11.PadBack", spec := "padBack", apart := false }
def PadBackSaid : Prop := padBackRow.holds Try.pinned (OpenSpec.ofChange padBackSpec)

/-- ITS FALSE NEIGHBOUR: 'it returns false'. Refute it at one input. -/
def padBackWrong : ChangeSpec := { name := "padBack", fn := fun _ => fun
  | [d1, d2] => { results := [.lit (.bool false)], args := [d1, d2] }
  | _ => none }
def PadBackWrongFalsely : Prop := padBackRow.holds Try.pinned (OpenSpec.ofChange padBackWrong)

/-- 'sapperlaw11.PadStrict': WHATEVER THE INPUT: true; the input reads as it did. -/
def padStrictSpec : ChangeSpec := { name := "padStrict", fn := fun _ => fun
  | [d1, d2, d3] => { results := [.lit (.bool true)], args := [d1, d2, d3] }
  | _ => none }
def padStrictRow : OpenClaim := { program := "ytcapjjmikapmfaa", sum := "c1e494c10ae4c6d1fd701c25e696c119d02c4991d73d8df1bfe468992d7cfdd2", func := "sapper/sapperlaw11.PadStrict", spec := "padStrict", apart := false }
def PadStrictSaid : Prop := padStrictRow.holds Try.pinned (OpenSpec.ofChange padStrictSpec)

/-- ITS FALSE NEIGHBOUR: 'it returns false'. Refute it at one input. -/
def padStrictWrong : ChangeSpec := { name := "padStrict", fn := fun _ => fun
  | [d1, d2, d3] => { results := [.lit (.bool false)], args := [d1, d2, d3] }
  | _ => none }
def PadStrictWrongFalsely : Prop := padStrictRow.holds Try.pinned (OpenSpec.ofChange padStrictWrong)

/-- 'sapperlaw1.WordEnds': WHATEVER THE INPUT: true; the input reads as it did. -/
def wordEndsSpec : ChangeSpec := { name := "wordEnds", fn := fun _ => fun
  | [d1, d2, d3] => { results := [.lit (.bool true)], args := [d1, d2, d3] }
  | _ => none }
def wordEndsRow : OpenClaim := { program := "ytcapjjmikapmfaa", sum := "c1e494c10ae4c6d1fd701c25e696c119d02c4991d73d8df1bfe468992d7cfdd2", func := "sapper/sapperlaw1.WordEnds", spec := "wordEnds", apart := false }
def WordEndsSaid : Prop := wordEndsRow.holds Try.pinned (OpenSpec.ofChange wordEndsSpec)

/-- ITS FALSE NEIGHBOUR: 'it returns false'. Refute it at one input. -/
def wordEndsWrong : ChangeSpec := { name := "wordEnds", fn := fun _ => fun
  | [d1, d2, d3] => { results := [.lit (.bool false)], args := [d1, d2, d3] }
  | _ => none }
def WordEndsWrongFalsely : Prop := wordEndsRow.holds Try.pinned (OpenSpec.ofChange wordEndsWrong)

/-- 'sapperlaw1.WordBack': WHATEVER THE INPUT: true; the input reads as it did. -/
def wordBackSpec : ChangeSpec := { name := "wordBack", fn := fun _ => fun
  | [d1, d2, d3, d4, d5] => { results := [.lit (.bool true)], args := [d1, d2, d3, d4, d5] }
  | _ => none }
def wordBackRow : OpenClaim := { program := "ytcapjjmikapmfaa", sum := "c1e494c10ae4c6d1fd701c25e696c119d02c4991d73d8df1bfe468992d7cfdd2", func := "sapper/sapperlaw1.WordBack", spec := "wordBack", apart := false }
def WordBackSaid : Prop := wordBackRow.holds Try.pinned (OpenSpec.ofChange wordBackSpec)

/-- ITS FALSE NEIGHBOUR: 'it returns false'. Refute it at one input. -/
def wordBackWrong : ChangeSpec := { name := "wordBack", fn := fun _ => fun
  | [d1, d2, d3, d4, d5] => { results := [.lit (.bool false)], args := [d1, d2, d3, d4, d5] }
  | _ => none }
def WordBackWrongFalsely : Prop := wordBackRow.holds Try.pinned (OpenSpec.ofChange wordBackWrong)

/-- 'sapperlaw1.WordForms': WHATEVER THE INPUT: true; the input reads as it did. -/
def wordFormsSpec : ChangeSpec := { name := "wordForms", fn := fun _ => fun
  | [d1, d2, d3, d4, d5, d6] => { results := [.lit (.bool true)], args := [d1, d2, d3, d4, d5, d6] }
  | _ => none }
def wordFormsRow : OpenClaim := { program := "ytcapjjmikapmfaa", sum := "c1e494c10ae4c6d1fd701c25e696c119d02c4991d73d8df1bfe468992d7cfdd2", func := "sapper/sapperlaw1.WordForms", spec := "wordForms", apart := false }
def WordFormsSaid : Prop := wordFormsRow.holds Try.pinned (OpenSpec.ofChange wordFormsSpec)

/-- ITS FALSE NEIGHBOUR: 'it returns false'. Refute it at one input. -/
def wordFormsWrong : ChangeSpec := { name := "wordForms", fn := fun _ => fun
  | [d1, d2, d3, d4, d5, d6] => { results := [.lit (.bool false)], args := [d1, d2, d3, d4, d5, d6] }
  | _ => none }
def WordFormsWrongFalsely : Prop := wordFormsRow.holds Try.pinned (OpenSpec.ofChange wordFormsWrong)

/-- 'sapperlaw7.ChachaTwice': WHATEVER THE INPUT: true; the input reads as it did. -/
def chachaTwiceSpec : ChangeSpec := { name := "chachaTwice", fn := fun _ => fun
  | [d1, d2, d3, d4, d5] => { results := [.lit (.bool true)], args := [d1, d2, d3, d4, d5] }
  | _ => none }
def chachaTwiceRow : OpenClaim := { program := "ytcapjjmikapmfaa", sum := "c1e494c10ae4c6d1fd701c25e696c119d02c4991d73d8df1bfe468992d7cfdd2", func := "sapper/sapperlaw7.ChachaTwice", spec := "chachaTwice", unfollowed := true, recurses := true, apart := false }
def ChachaTwiceSaid : Prop := chachaTwiceRow.holds Try.pinned (OpenSpec.ofChange chachaTwiceSpec)

/-- ITS FALSE NEIGHBOUR: 'it returns false'. Refute it at one input. -/
def chachaTwiceWrong : ChangeSpec := { name := "chachaTwice", fn := fun _ => fun
  | [d1, d2, d3, d4, d5] => { results := [.lit (.bool false)], args := [d1, d2, d3, d4, d5] }
  | _ => none }
def ChachaTwiceWrongFalsely : Prop := chachaTwiceRow.holds Try.pinned (OpenSpec.ofChange chachaTwiceWrong)

/-- 'sapperlaw7.ChachaForms': WHATEVER THE INPUT: true; the input reads as it did. -/
def chachaFormsSpec : ChangeSpec := { name := "chachaForms", fn := fun _ => fun
  | [d1, d2, d3, d4, d5, d6, d7, d8] => { results := [.lit (.bool true)], args := [d1, d2, d3, d4, d5, d6, d7, d8] }
  | _ => none }
def chachaFormsRow : OpenClaim := { program := "ytcapjjmikapmfaa", sum := "c1e494c10ae4c6d1fd701c25e696c119d02c4991d73d8df1bfe468992d7cfdd2", func := "sapper/sapperlaw7.ChachaForms", spec := "chachaForms", unfollowed := true, recurses := true, apart := false }
def ChachaFormsSaid : Prop := chachaFormsRow.holds Try.pinned (OpenSpec.ofChange chachaFormsSpec)

/-- ITS FALSE NEIGHBOUR: 'it returns false'. Refute it at one input. -/
def chachaFormsWrong : ChangeSpec := { name := "chachaForms", fn := fun _ => fun
  | [d1, d2, d3, d4, d5, d6, d7, d8] => { results := [.lit (.bool false)], args := [d1, d2, d3, d4, d5, d6, d7, d8] }
  | _ => none }
def ChachaFormsWrongFalsely : Prop := chachaFormsRow.holds Try.pinned (OpenSpec.ofChange chachaFormsWrong)

/-- 'sapperlaw7.ChachaBlocks': WHATEVER THE INPUT: true; the input reads as it did. -/
def chachaBlocksSpec : ChangeSpec := { name := "chachaBlocks", fn := fun _ => fun
  | [d1, d2, d3] => { results := [.lit (.bool true)], args := [d1, d2, d3] }
  | _ => none }
def chachaBlocksRow : OpenClaim := { program := "ytcapjjmikapmfaa", sum := "c1e494c10ae4c6d1fd701c25e696c119d02c4991d73d8df1bfe468992d7cfdd2", func := "sapper/sapperlaw7.ChachaBlocks", spec := "chachaBlocks", unfollowed := true, recurses := true, apart := false }
def ChachaBlocksSaid : Prop := chachaBlocksRow.holds Try.pinned (OpenSpec.ofChange chachaBlocksSpec)

/-- ITS FALSE NEIGHBOUR: 'it returns false'. Refute it at one input. -/
def chachaBlocksWrong : ChangeSpec := { name := "chachaBlocks", fn := fun _ => fun
  | [d1, d2, d3] => { results := [.lit (.bool false)], args := [d1, d2, d3] }
  | _ => none }
def ChachaBlocksWrongFalsely : Prop := chachaBlocksRow.holds Try.pinned (OpenSpec.ofChange chachaBlocksWrong)

/-- 'sapperlaw2.ShaReckons': WHATEVER THE INPUT: true; the input reads as it did. -/
def shaReckonsSpec : ChangeSpec := { name := "shaReckons", fn := fun _ => fun
  | [d] => { results := [.lit (.bool true)], args := [d] }
  | _ => none }
def shaReckonsRow : OpenClaim := { program := "ytcapjjmikapmfaa", sum := "c1e494c10ae4c6d1fd701c25e696c119d02c4991d73d8df1bfe468992d7cfdd2", func := "sapper/sapperlaw2.ShaReckons", spec := "shaReckons", apart := false }
def ShaReckonsSaid : Prop := shaReckonsRow.holds Try.pinned (OpenSpec.ofChange shaReckonsSpec)

/-- ITS FALSE NEIGHBOUR: 'it returns false'. Refute it at one input. -/
def shaReckonsWrong : ChangeSpec := { name := "shaReckons", fn := fun _ => fun
  | [d] => { results := [.lit (.bool false)], args := [d] }
  | _ => none }
def ShaReckonsWrongFalsely : Prop := shaReckonsRow.holds Try.pinned (OpenSpec.ofChange shaReckonsWrong)

/-- 'sapperlaw2.ShaEdges': WHATEVER THE INPUT: true; the input reads as it did. -/
def shaEdgesSpec : ChangeSpec := { name := "shaEdges", fn := fun _ => fun
  | [d1, d2] => { results := [.lit (.bool true)], args := [d1, d2] }
  | _ => none }
def shaEdgesRow : OpenClaim := { program := "ytcapjjmikapmfaa", sum := "c1e494c10ae4c6d1fd701c25e696c119d02c4991d73d8df1bfe468992d7cfdd2", func := "sapper/sapperlaw2.ShaEdges", spec := "shaEdges", apart := false }
def ShaEdgesSaid : Prop := shaEdgesRow.holds Try.pinned (OpenSpec.ofChange shaEdgesSpec)

/-- ITS FALSE NEIGHBOUR: 'it returns false'. Refute it at one input. -/
def shaEdgesWrong : ChangeSpec := { name := "shaEdges", fn := fun _ => fun
  | [d1, d2] => { results := [.lit (.bool false)], args := [d1, d2] }
  | _ => none }
def ShaEdgesWrongFalsely : Prop := shaEdgesRow.holds Try.pinned (OpenSpec.ofChange shaEdgesWrong)

/-- 'sapperlaw2.ShaOwn': WHATEVER THE INPUT: true; the input reads as it did. -/
def shaOwnSpec : ChangeSpec := { name := "shaOwn", fn := fun _ => fun
  | [d1, d2] => { results := [.lit (.bool true)], args := [d1, d2] }
  | _ => none }
def shaOwnRow : OpenClaim := { program := "ytcapjjmikapmfaa", sum := "c1e494c10ae4c6d1fd701c25e696c119d02c4991d73d8df1bfe468992d7cfdd2", func := "sapper/sapperlaw2.ShaOwn", spec := "shaOwn", apart := false }
def ShaOwnSaid : Prop := shaOwnRow.holds Try.pinned (OpenSpec.ofChange shaOwnSpec)

/-- ITS FALSE NEIGHBOUR: 'it returns false'. Refute it at one input. -/
def shaOwnWrong : ChangeSpec := { name := "shaOwn", fn := fun _ => fun
  | [d1, d2] => { results := [.lit (.bool false)], args := [d1, d2] }
  | _ => none }
def ShaOwnWrongFalsely : Prop := shaOwnRow.holds Try.pinned (OpenSpec.ofChange shaOwnWrong)

/-- 'sapperlaw2.ShaPieces': WHATEVER THE INPUT: true; the input reads as it did. -/
def shaPiecesSpec : ChangeSpec := { name := "shaPieces", fn := fun _ => fun
  | [d] => { results := [.lit (.bool true)], args := [d] }
  | _ => none }
def shaPiecesRow : OpenClaim := { program := "ytcapjjmikapmfaa", sum := "c1e494c10ae4c6d1fd701c25e696c119d02c4991d73d8df1bfe468992d7cfdd2", func := "sapper/sapperlaw2.ShaPieces", spec := "shaPieces", apart := false }
def ShaPiecesSaid : Prop := shaPiecesRow.holds Try.pinned (OpenSpec.ofChange shaPiecesSpec)

/-- ITS FALSE NEIGHBOUR: 'it returns false'. Refute it at one input. -/
def shaPiecesWrong : ChangeSpec := { name := "shaPieces", fn := fun _ => fun
  | [d] => { results := [.lit (.bool false)], args := [d] }
  | _ => none }
def ShaPiecesWrongFalsely : Prop := shaPiecesRow.holds Try.pinned (OpenSpec.ofChange shaPiecesWrong)

/-- 'sapperlaw2.ShaNil': WHATEVER THE INPUT: true; the input reads as it did. -/
def shaNilSpec : ChangeSpec := { name := "shaNil", fn := fun _ => fun
  | [d] => { results := [.lit (.bool true)], args := [d] }
  | _ => none }
def shaNilRow : OpenClaim := { program := "ytcapjjmikapmfaa", sum := "c1e494c10ae4c6d1fd701c25e696c119d02c4991d73d8df1bfe468992d7cfdd2", func := "sapper/sapperlaw2.ShaNil", spec := "shaNil", apart := false }
def ShaNilSaid : Prop := shaNilRow.holds Try.pinned (OpenSpec.ofChange shaNilSpec)

/-- ITS FALSE NEIGHBOUR: 'it returns false'. Refute it at one input. -/
def shaNilWrong : ChangeSpec := { name := "shaNil", fn := fun _ => fun
  | [d] => { results := [.lit (.bool false)], args := [d] }
  | _ => none }
def ShaNilWrongFalsely : Prop := shaNilRow.holds Try.pinned (OpenSpec.ofChange shaNilWrong)

/-- 'sapperlaw8.PolyForms': WHATEVER THE INPUT: true; the input reads as it did. -/
def polyFormsSpec : ChangeSpec := { name := "polyForms", fn := fun _ => fun
  | [d1, d2, d3] => { results := [.lit (.bool true)], args := [d1, d2, d3] }
  | _ => none }
def polyFormsRow : OpenClaim := { program := "ytcapjjmikapmfaa", sum := "c1e494c10ae4c6d1fd701c25e696c119d02c4991d73d8df1bfe468992d7cfdd2", func := "sapper/sapperlaw8.PolyForms", spec := "polyForms", inPlace := ["math/bits.Add64"], unfollowed := true, recurses := true, apart := false }
def PolyFormsSaid : Prop := polyFormsRow.holds Try.pinned (OpenSpec.ofChange polyFormsSpec)

/-- ITS FALSE NEIGHBOUR: 'it returns false'. Refute it at one input. -/
def polyFormsWrong : ChangeSpec := { name := "polyForms", fn := fun _ => fun
  | [d1, d2, d3] => { results := [.lit (.bool false)], args := [d1, d2, d3] }
  | _ => none }
def PolyFormsWrongFalsely : Prop := polyFormsRow.holds Try.pinned (OpenSpec.ofChange polyFormsWrong)

/-- 'sapperlaw8.PolyGreat': WHATEVER THE INPUT: true; the input reads as it did. -/
def polyGreatSpec : ChangeSpec := { name := "polyGreat", fn := fun _ => fun
  | [d1, d2, d3] => { results := [.lit (.bool true)], args := [d1, d2, d3] }
  | _ => none }
def polyGreatRow : OpenClaim := { program := "ytcapjjmikapmfaa", sum := "c1e494c10ae4c6d1fd701c25e696c119d02c4991d73d8df1bfe468992d7cfdd2", func := "sapper/sapperlaw8.PolyGreat", spec := "polyGreat", inPlace := ["math/bits.Add64"], unfollowed := true, recurses := true, apart := false }
def PolyGreatSaid : Prop := polyGreatRow.holds Try.pinned (OpenSpec.ofChange polyGreatSpec)

/-- ITS FALSE NEIGHBOUR: 'it returns false'. Refute it at one input. -/
def polyGreatWrong : ChangeSpec := { name := "polyGreat", fn := fun _ => fun
  | [d1, d2, d3] => { results := [.lit (.bool false)], args := [d1, d2, d3] }
  | _ => none }
def PolyGreatWrongFalsely : Prop := polyGreatRow.holds Try.pinned (OpenSpec.ofChange polyGreatWrong)

/-- 'sapperlaw8.PolyNothing': WHATEVER THE INPUT: true; the input reads as it did. -/
def polyNothingSpec : ChangeSpec := { name := "polyNothing", fn := fun _ => fun
  | [d1, d2] => { results := [.lit (.bool true)], args := [d1, d2] }
  | _ => none }
def polyNothingRow : OpenClaim := { program := "ytcapjjmikapmfaa", sum := "c1e494c10ae4c6d1fd701c25e696c119d02c4991d73d8df1bfe468992d7cfdd2", func := "sapper/sapperlaw8.PolyNothing", spec := "polyNothing", inPlace := ["math/bits.Add64"], unfollowed := true, recurses := true, apart := false }
def PolyNothingSaid : Prop := polyNothingRow.holds Try.pinned (OpenSpec.ofChange polyNothingSpec)

/-- ITS FALSE NEIGHBOUR: 'it returns false'. Refute it at one input. -/
def polyNothingWrong : ChangeSpec := { name := "polyNothing", fn := fun _ => fun
  | [d1, d2] => { results := [.lit (.bool false)], args := [d1, d2] }
  | _ => none }
def PolyNothingWrongFalsely : Prop := polyNothingRow.holds Try.pinned (OpenSpec.ofChange polyNothingWrong)

/-- 'sapperlaw8.PolyOne': WHATEVER THE INPUT: true; the input reads as it did. -/
def polyOneSpec : ChangeSpec := { name := "polyOne", fn := fun _ => fun
  | [d1, d2] => { results := [.lit (.bool true)], args := [d1, d2] }
  | _ => none }
def polyOneRow : OpenClaim := { program := "ytcapjjmikapmfaa", sum := "c1e494c10ae4c6d1fd701c25e696c119d02c4991d73d8df1bfe468992d7cfdd2", func := "sapper/sapperlaw8.PolyOne", spec := "polyOne", inPlace := ["math/bits.Add64"], unfollowed := true, recurses := true, apart := false }
def PolyOneSaid : Prop := polyOneRow.holds Try.pinned (OpenSpec.ofChange polyOneSpec)

/-- ITS FALSE NEIGHBOUR: 'it returns false'. Refute it at one input. -/
def polyOneWrong : ChangeSpec := { name := "polyOne", fn := fun _ => fun
  | [d1, d2] => { results := [.lit (.bool false)], args := [d1, d2] }
  | _ => none }
def PolyOneWrongFalsely : Prop := polyOneRow.holds Try.pinned (OpenSpec.ofChange polyOneWrong)

/-- 'sapperlaw3.HmacReckons': WHATEVER THE INPUT: true; the input reads as it did. -/
def hmacReckonsSpec : ChangeSpec := { name := "hmacReckons", fn := fun _ => fun
  | [d1, d2] => { results := [.lit (.bool true)], args := [d1, d2] }
  | _ => none }
def hmacReckonsRow : OpenClaim := { program := "ytcapjjmikapmfaa", sum := "c1e494c10ae4c6d1fd701c25e696c119d02c4991d73d8df1bfe468992d7cfdd2", func := "sapper/sapperlaw3.HmacReckons", spec := "hmacReckons", apart := false }
def HmacReckonsSaid : Prop := hmacReckonsRow.holds Try.pinned (OpenSpec.ofChange hmacReckonsSpec)

/-- ITS FALSE NEIGHBOUR: 'it returns false'. Refute it at one input. -/
def hmacReckonsWrong : ChangeSpec := { name := "hmacReckons", fn := fun _ => fun
  | [d1, d2] => { results := [.lit (.bool false)], args := [d1, d2] }
  | _ => none }
def HmacReckonsWrongFalsely : Prop := hmacReckonsRow.holds Try.pinned (OpenSpec.ofChange hmacReckonsWrong)

/-- 'sapperlaw3.HmacKeys': WHATEVER THE INPUT: true; the input reads as it did. -/
def hmacKeysSpec : ChangeSpec := { name := "hmacKeys", fn := fun _ => fun
  | [d1, d2, d3] => { results := [.lit (.bool true)], args := [d1, d2, d3] }
  | _ => none }
def hmacKeysRow : OpenClaim := { program := "ytcapjjmikapmfaa", sum := "c1e494c10ae4c6d1fd701c25e696c119d02c4991d73d8df1bfe468992d7cfdd2", func := "sapper/sapperlaw3.HmacKeys", spec := "hmacKeys", apart := false }
def HmacKeysSaid : Prop := hmacKeysRow.holds Try.pinned (OpenSpec.ofChange hmacKeysSpec)

/-- ITS FALSE NEIGHBOUR: 'it returns false'. Refute it at one input. -/
def hmacKeysWrong : ChangeSpec := { name := "hmacKeys", fn := fun _ => fun
  | [d1, d2, d3] => { results := [.lit (.bool false)], args := [d1, d2, d3] }
  | _ => none }
def HmacKeysWrongFalsely : Prop := hmacKeysRow.holds Try.pinned (OpenSpec.ofChange hmacKeysWrong)

/-- 'sapperlaw3.HmacParts': WHATEVER THE INPUT: true; the input reads as it did. -/
def hmacPartsSpec : ChangeSpec := { name := "hmacParts", fn := fun _ => fun
  | [d1, d2] => { results := [.lit (.bool true)], args := [d1, d2] }
  | _ => none }
def hmacPartsRow : OpenClaim := { program := "ytcapjjmikapmfaa", sum := "c1e494c10ae4c6d1fd701c25e696c119d02c4991d73d8df1bfe468992d7cfdd2", func := "sapper/sapperlaw3.HmacParts", spec := "hmacParts", apart := false }
def HmacPartsSaid : Prop := hmacPartsRow.holds Try.pinned (OpenSpec.ofChange hmacPartsSpec)

/-- ITS FALSE NEIGHBOUR: 'it returns false'. Refute it at one input. -/
def hmacPartsWrong : ChangeSpec := { name := "hmacParts", fn := fun _ => fun
  | [d1, d2] => { results := [.lit (.bool false)], args := [d1, d2] }
  | _ => none }
def HmacPartsWrongFalsely : Prop := hmacPartsRow.holds Try.pinned (OpenSpec.ofChange hmacPartsWrong)

/-- 'sapperlaw4.HkdfForms': WHATEVER THE INPUT: true; the input reads as it did. -/
def hkdfFormsSpec : ChangeSpec := { name := "hkdfForms", fn := fun _ => fun
  | [d1, d2, d3, d4, d5] => { results := [.lit (.bool true)], args := [d1, d2, d3, d4, d5] }
  | _ => none }
def hkdfFormsRow : OpenClaim := { program := "ytcapjjmikapmfaa", sum := "c1e494c10ae4c6d1fd701c25e696c119d02c4991d73d8df1bfe468992d7cfdd2", func := "sapper/sapperlaw4.HkdfForms", spec := "hkdfForms", unfollowed := true, recurses := true, apart := false }
def HkdfFormsSaid : Prop := hkdfFormsRow.holds Try.pinned (OpenSpec.ofChange hkdfFormsSpec)

/-- ITS FALSE NEIGHBOUR: 'it returns false'. Refute it at one input. -/
def hkdfFormsWrong : ChangeSpec := { name := "hkdfForms", fn := fun _ => fun
  | [d1, d2, d3, d4, d5] => { results := [.lit (.bool false)], args := [d1, d2, d3, d4, d5] }
  | _ => none }
def HkdfFormsWrongFalsely : Prop := hkdfFormsRow.holds Try.pinned (OpenSpec.ofChange hkdfFormsWrong)

/-- 'sapperlaw4.HkdfChain': WHATEVER THE INPUT: true; the input reads as it did. -/
def hkdfChainSpec : ChangeSpec := { name := "hkdfChain", fn := fun _ => fun
  | [d1, d2, d3, d4, d5] => { results := [.lit (.bool true)], args := [d1, d2, d3, d4, d5] }
  | _ => none }
def hkdfChainRow : OpenClaim := { program := "ytcapjjmikapmfaa", sum := "c1e494c10ae4c6d1fd701c25e696c119d02c4991d73d8df1bfe468992d7cfdd2", func := "sapper/sapperlaw4.HkdfChain", spec := "hkdfChain", unfollowed := true, recurses := true, apart := false }
def HkdfChainSaid : Prop := hkdfChainRow.holds Try.pinned (OpenSpec.ofChange hkdfChainSpec)

/-- ITS FALSE NEIGHBOUR: 'it returns false'. Refute it at one input. -/
def hkdfChainWrong : ChangeSpec := { name := "hkdfChain", fn := fun _ => fun
  | [d1, d2, d3, d4, d5] => { results := [.lit (.bool false)], args := [d1, d2, d3, d4, d5] }
  | _ => none }
def HkdfChainWrongFalsely : Prop := hkdfChainRow.holds Try.pinned (OpenSpec.ofChange hkdfChainWrong)

/-- 'sapperlaw4.HkdfBounds': WHATEVER THE INPUT: true; the input reads as it did. -/
def hkdfBoundsSpec : ChangeSpec := { name := "hkdfBounds", fn := fun _ => fun
  | [d1, d2, d3] => { results := [.lit (.bool true)], args := [d1, d2, d3] }
  | _ => none }
def hkdfBoundsRow : OpenClaim := { program := "ytcapjjmikapmfaa", sum := "c1e494c10ae4c6d1fd701c25e696c119d02c4991d73d8df1bfe468992d7cfdd2", func := "sapper/sapperlaw4.HkdfBounds", spec := "hkdfBounds", unfollowed := true, recurses := true, apart := false }
def HkdfBoundsSaid : Prop := hkdfBoundsRow.holds Try.pinned (OpenSpec.ofChange hkdfBoundsSpec)

/-- ITS FALSE NEIGHBOUR: 'it returns false'. Refute it at one input. -/
def hkdfBoundsWrong : ChangeSpec := { name := "hkdfBounds", fn := fun _ => fun
  | [d1, d2, d3] => { results := [.lit (.bool false)], args := [d1, d2, d3] }
  | _ => none }
def HkdfBoundsWrongFalsely : Prop := hkdfBoundsRow.holds Try.pinned (OpenSpec.ofChange hkdfBoundsWrong)

/-- 'sapperlaw4.HkdfFirst': WHATEVER THE INPUT: true; the input reads as it did. -/
def hkdfFirstSpec : ChangeSpec := { name := "hkdfFirst", fn := fun _ => fun
  | [d1, d2] => { results := [.lit (.bool true)], args := [d1, d2] }
  | _ => none }
def hkdfFirstRow : OpenClaim := { program := "ytcapjjmikapmfaa", sum := "c1e494c10ae4c6d1fd701c25e696c119d02c4991d73d8df1bfe468992d7cfdd2", func := "sapper/sapperlaw4.HkdfFirst", spec := "hkdfFirst", unfollowed := true, recurses := true, apart := false }
def HkdfFirstSaid : Prop := hkdfFirstRow.holds Try.pinned (OpenSpec.ofChange hkdfFirstSpec)

/-- ITS FALSE NEIGHBOUR: 'it returns false'. Refute it at one input. -/
def hkdfFirstWrong : ChangeSpec := { name := "hkdfFirst", fn := fun _ => fun
  | [d1, d2] => { results := [.lit (.bool false)], args := [d1, d2] }
  | _ => none }
def HkdfFirstWrongFalsely : Prop := hkdfFirstRow.holds Try.pinned (OpenSpec.ofChange hkdfFirstWrong)

/- THE SECOND FORM. 'bulk': how many values and letters a reading holds, each counted each time it is reached (what is shared counts as often as it is met; a slice's spare places count too). A statement '..UptoSaid' is the law's where the arguments, and the package variables that the reading takes, are together of bulk at most 1048576: NARROWER than '..Said'. Prove '..Said' where nothing that the law and all that it calls make is longer than what came in: it says more and counts as full. Else prove '..UptoSaid'. A law counts once. -/
mutual
def uptoBulk {H : Type} : DataW H → Nat
  | .lit (.string bytes) => bytes.length + 1
  | .lit _ => 1
  | .nil => 1
  | .ptr d => uptoBulk d + 1
  | .slice elems spare => uptoBulkAll elems + uptoBulkAll spare + 1
  | .agg parts => uptoBulkAll parts + 1
  | .iface _ d => uptoBulk d + 1
  | .map entries => uptoBulkEntries entries + 1
  | .held _ => 1
def uptoBulkAll {H : Type} : List (DataW H) → Nat
  | [] => 0
  | d :: r => uptoBulk d + uptoBulkAll r
def uptoBulkEntries {H : Type} : List (Lit × DataW H) → Nat
  | [] => 0
  | x :: r => uptoBulkEntry x + uptoBulkEntries r
def uptoBulkEntry {H : Type} : Lit × DataW H → Nat
  | (.string bytes, d) => bytes.length + uptoBulk d + 1
  | (_, d) => uptoBulk d + 1
 end
def uptoSmall : (H : Type) → List (DataW H) → Bool := fun _ ds => decide (uptoBulkAll ds ≤ 1048576)
def OpenSpec.upto (s : _root_.Go.ChangeSpec) : _root_.Go.OpenSpec := { _root_.Go.OpenSpec.ofChange s with cond := some uptoSmall }

/-- 'sapperlaw7.ChachaQuarters', WHERE WHAT IT READS IS OF BULK AT MOST 1048576: true; the input reads as it did. -/
def chachaQuartersUptoRow : OpenClaim := { program := "ytcapjjmikapmfaa", sum := "c1e494c10ae4c6d1fd701c25e696c119d02c4991d73d8df1bfe468992d7cfdd2", func := "sapper/sapperlaw7.ChachaQuarters", spec := "chachaQuarters", apart := false, narrowed := true }
def ChachaQuartersUptoSaid : Prop := chachaQuartersUptoRow.holds Try.pinned (OpenSpec.upto chachaQuartersSpec)

/-- 'sapperlaw1.WordTurns', WHERE WHAT IT READS IS OF BULK AT MOST 1048576: true; the input reads as it did. -/
def wordTurnsUptoRow : OpenClaim := { program := "ytcapjjmikapmfaa", sum := "c1e494c10ae4c6d1fd701c25e696c119d02c4991d73d8df1bfe468992d7cfdd2", func := "sapper/sapperlaw1.WordTurns", spec := "wordTurns", apart := false, narrowed := true }
def WordTurnsUptoSaid : Prop := wordTurnsUptoRow.holds Try.pinned (OpenSpec.upto wordTurnsSpec)

/-- 'sapperlaw17.QuotaPlays', WHERE WHAT IT READS IS OF BULK AT MOST 1048576: true; the input reads as it did. -/
def quotaPlaysUptoRow : OpenClaim := { program := "ytcapjjmikapmfaa", sum := "c1e494c10ae4c6d1fd701c25e696c119d02c4991d73d8df1bfe468992d7cfdd2", func := "sapper/sapperlaw17.QuotaPlays", spec := "quotaPlays", apart := false, narrowed := true }
def QuotaPlaysUptoSaid : Prop := quotaPlaysUptoRow.holds Try.pinned (OpenSpec.upto quotaPlaysSpec)

/-- 'sapperlaw17.QuotaNil', WHERE WHAT IT READS IS OF BULK AT MOST 1048576: true; the input reads as it did. -/
def quotaNilUptoRow : OpenClaim := { program := "ytcapjjmikapmfaa", sum := "c1e494c10ae4c6d1fd701c25e696c119d02c4991d73d8df1bfe468992d7cfdd2", func := "sapper/sapperlaw17.QuotaNil", spec := "quotaNil", apart := false, narrowed := true }
def QuotaNilUptoSaid : Prop := quotaNilUptoRow.holds Try.pinned (OpenSpec.upto quotaNilSpec)

/-- 'sapperlaw17.QuotaApart', WHERE WHAT IT READS IS OF BULK AT MOST 1048576: true; the input reads as it did. -/
def quotaApartUptoRow : OpenClaim := { program := "ytcapjjmikapmfaa", sum := "c1e494c10ae4c6d1fd701c25e696c119d02c4991d73d8df1bfe468992d7cfdd2", func := "sapper/sapperlaw17.QuotaApart", spec := "quotaApart", apart := false, narrowed := true }
def QuotaApartUptoSaid : Prop := quotaApartUptoRow.holds Try.pinned (OpenSpec.upto quotaApartSpec)

/-- 'sapperlaw17.QuotaSums', WHERE WHAT IT READS IS OF BULK AT MOST 1048576: true; the input reads as it did. -/
def quotaSumsUptoRow : OpenClaim := { program := "ytcapjjmikapmfaa", sum := "c1e494c10ae4c6d1fd701c25e696c119d02c4991d73d8df1bfe468992d7cfdd2", func := "sapper/sapperlaw17.QuotaSums", spec := "quotaSums", apart := false, narrowed := true }
def QuotaSumsUptoSaid : Prop := quotaSumsUptoRow.holds Try.pinned (OpenSpec.upto quotaSumsSpec)

/-- 'sapperlaw11.PadForms', WHERE WHAT IT READS IS OF BULK AT MOST 1048576: true; the input reads as it did. -/
def padFormsUptoRow : OpenClaim := { program := "ytcapjjmikapmfaa", sum := "c1e494c10ae4c6d1fd701c25e696c119d02c4991d73d8df1bfe468992d7cfdd2", func := "sapper/sapperlaw11.PadForms", spec := "padForms", apart := false, narrowed := true }
def PadFormsUptoSaid : Prop := padFormsUptoRow.holds Try.pinned (OpenSpec.upto padFormsSpec)

/-- 'sapperlaw11.PadBack', WHERE WHAT IT READS IS OF BULK AT MOST 1048576: true; the input reads as it did. -/
def padBackUptoRow : OpenClaim := { program := "ytcapjjmikapmfaa", sum := "c1e494c10ae4c6d1fd701c25e696c119d02c4991d73d8df1bfe468992d7cfdd2", func := "sapper/sapperlaw11.PadBack", spec := "padBack", apart := false, narrowed := true }
def PadBackUptoSaid : Prop := padBackUptoRow.holds Try.pinned (OpenSpec.upto padBackSpec)

/-- 'sapperlaw11.PadStrict', WHERE WHAT IT READS IS OF BULK AT MOST 1048576: true; the input reads as it did. -/
def padStrictUptoRow : OpenClaim := { program := "ytcapjjmikapmfaa", sum := "c1e494c10ae4c6d1fd701c25e696c119d02c4991d73d8df1bfe468992d7cfdd2", func := "sapper/sapperlaw11.PadStrict", spec := "padStrict", apart := false, narrowed := true }
def PadStrictUptoSaid : Prop := padStrictUptoRow.holds Try.pinned (OpenSpec.upto padStrictSpec)

/-- 'sapperlaw1.WordEnds', WHERE WHAT IT READS IS OF BULK AT MOST 1048576: true; the input reads as it did. -/
def wordEndsUptoRow : OpenClaim := { program := "ytcapjjmikapmfaa", sum := "c1e494c10ae4c6d1fd701c25e696c119d02c4991d73d8df1bfe468992d7cfdd2", func := "sapper/sapperlaw1.WordEnds", spec := "wordEnds", apart := false, narrowed := true }
def WordEndsUptoSaid : Prop := wordEndsUptoRow.holds Try.pinned (OpenSpec.upto wordEndsSpec)

/-- 'sapperlaw1.WordBack', WHERE WHAT IT READS IS OF BULK AT MOST 1048576: true; the input reads as it did. -/
def wordBackUptoRow : OpenClaim := { program := "ytcapjjmikapmfaa", sum := "c1e494c10ae4c6d1fd701c25e696c119d02c4991d73d8df1bfe468992d7cfdd2", func := "sapper/sapperlaw1.WordBack", spec := "wordBack", apart := false, narrowed := true }
def WordBackUptoSaid : Prop := wordBackUptoRow.holds Try.pinned (OpenSpec.upto wordBackSpec)

/-- 'sapperlaw1.WordForms', WHERE WHAT IT READS IS OF BULK AT MOST 1048576: true; the input reads as it did. -/
def wordFormsUptoRow : OpenClaim := { program := "ytcapjjmikapmfaa", sum := "c1e494c10ae4c6d1fd701c25e696c119d02c4991d73d8df1bfe468992d7cfdd2", func := "sapper/sapperlaw1.WordForms", spec := "wordForms", apart := false, narrowed := true }
def WordFormsUptoSaid : Prop := wordFormsUptoRow.holds Try.pinned (OpenSpec.upto wordFormsSpec)

/-- 'sapperlaw7.ChachaTwice', WHERE WHAT IT READS IS OF BULK AT MOST 1048576: true; the input reads as it did. -/
def chachaTwiceUptoRow : OpenClaim := { program := "ytcapjjmikapmfaa", sum := "c1e494c10ae4c6d1fd701c25e696c119d02c4991d73d8df1bfe468992d7cfdd2", func := "sapper/sapperlaw7.ChachaTwice", spec := "chachaTwice", unfollowed := true, recurses := true, apart := false, narrowed := true }
def ChachaTwiceUptoSaid : Prop := chachaTwiceUptoRow.holds Try.pinned (OpenSpec.upto chachaTwiceSpec)

/-- 'sapperlaw7.ChachaForms', WHERE WHAT IT READS IS OF BULK AT MOST 1048576: true; the input reads as it did. -/
def chachaFormsUptoRow : OpenClaim := { program := "ytcapjjmikapmfaa", sum := "c1e494c10ae4c6d1fd701c25e696c119d02c4991d73d8df1bfe468992d7cfdd2", func := "sapper/sapperlaw7.ChachaForms", spec := "chachaForms", unfollowed := true, recurses := true, apart := false, narrowed := true }
def ChachaFormsUptoSaid : Prop := chachaFormsUptoRow.holds Try.pinned (OpenSpec.upto chachaFormsSpec)

/-- 'sapperlaw7.ChachaBlocks', WHERE WHAT IT READS IS OF BULK AT MOST 1048576: true; the input reads as it did. -/
def chachaBlocksUptoRow : OpenClaim := { program := "ytcapjjmikapmfaa", sum := "c1e494c10ae4c6d1fd701c25e696c119d02c4991d73d8df1bfe468992d7cfdd2", func := "sapper/sapperlaw7.ChachaBlocks", spec := "chachaBlocks", unfollowed := true, recurses := true, apart := false, narrowed := true }
def ChachaBlocksUptoSaid : Prop := chachaBlocksUptoRow.holds Try.pinned (OpenSpec.upto chachaBlocksSpec)

/-- 'sapperlaw2.ShaReckons', WHERE WHAT IT READS IS OF BULK AT MOST 1048576: true; the input reads as it did. -/
def shaReckonsUptoRow : OpenClaim := { program := "ytcapjjmikapmfaa", sum := "c1e494c10ae4c6d1fd701c25e696c119d02c4991d73d8df1bfe468992d7cfdd2", func := "sapper/sapperlaw2.ShaReckons", spec := "shaReckons", apart := false, narrowed := true }
def ShaReckonsUptoSaid : Prop := shaReckonsUptoRow.holds Try.pinned (OpenSpec.upto shaReckonsSpec)

/-- 'sapperlaw2.ShaEdges', WHERE WHAT IT READS IS OF BULK AT MOST 1048576: true; the input reads as it did. -/
def shaEdgesUptoRow : OpenClaim := { program := "ytcapjjmikapmfaa", sum := "c1e494c10ae4c6d1fd701c25e696c119d02c4991d73d8df1bfe468992d7cfdd2", func := "sapper/sapperlaw2.ShaEdges", spec := "shaEdges", apart := false, narrowed := true }
def ShaEdgesUptoSaid : Prop := shaEdgesUptoRow.holds Try.pinned (OpenSpec.upto shaEdgesSpec)

/-- 'sapperlaw2.ShaOwn', WHERE WHAT IT READS IS OF BULK AT MOST 1048576: true; the input reads as it did. -/
def shaOwnUptoRow : OpenClaim := { program := "ytcapjjmikapmfaa", sum := "c1e494c10ae4c6d1fd701c25e696c119d02c4991d73d8df1bfe468992d7cfdd2", func := "sapper/sapperlaw2.ShaOwn", spec := "shaOwn", apart := false, narrowed := true }
def ShaOwnUptoSaid : Prop := shaOwnUptoRow.holds Try.pinned (OpenSpec.upto shaOwnSpec)

/-- 'sapperlaw2.ShaPieces', WHERE WHAT IT READS IS OF BULK AT MOST 1048576: true; the input reads as it did. -/
def shaPiecesUptoRow : OpenClaim := { program := "ytcapjjmikapmfaa", sum := "c1e494c10ae4c6d1fd701c25e696c119d02c4991d73d8df1bfe468992d7cfdd2", func := "sapper/sapperlaw2.ShaPieces", spec := "shaPieces", apart := false, narrowed := true }
def ShaPiecesUptoSaid : Prop := shaPiecesUptoRow.holds Try.pinned (OpenSpec.upto shaPiecesSpec)

/-- 'sapperlaw2.ShaNil', WHERE WHAT IT READS IS OF BULK AT MOST 1048576: true; the input reads as it did. -/
def shaNilUptoRow : OpenClaim := { program := "ytcapjjmikapmfaa", sum := "c1e494c10ae4c6d1fd701c25e696c119d02c4991d73d8df1bfe468992d7cfdd2", func := "sapper/sapperlaw2.ShaNil", spec := "shaNil", apart := false, narrowed := true }
def ShaNilUptoSaid : Prop := shaNilUptoRow.holds Try.pinned (OpenSpec.upto shaNilSpec)

/-- 'sapperlaw8.PolyForms', WHERE WHAT IT READS IS OF BULK AT MOST 1048576: true; the input reads as it did. -/
def polyFormsUptoRow : OpenClaim := { program := "ytcapjjmikapmfaa", sum := "c1e494c10ae4c6d1fd701c25e696c119d02c4991d73d8df1bfe468992d7cfdd2", func := "sapper/sapperlaw8.PolyForms", spec := "polyForms", inPlace := ["math/bits.Add64"], unfollowed := true, recurses := true, apart := false, narrowed := true }
def PolyFormsUptoSaid : Prop := polyFormsUptoRow.holds Try.pinned (OpenSpec.upto polyFormsSpec)

/-- 'sapperlaw8.PolyGreat', WHERE WHAT IT READS IS OF BULK AT MOST 1048576: true; the input reads as it did. -/
def polyGreatUptoRow : OpenClaim := { program := "ytcapjjmikapmfaa", sum := "c1e494c10ae4c6d1fd701c25e696c119d02c4991d73d8df1bfe468992d7cfdd2", func := "sapper/sapperlaw8.PolyGreat", spec := "polyGreat", inPlace := ["math/bits.Add64"], unfollowed := true, recurses := true, apart := false, narrowed := true }
def PolyGreatUptoSaid : Prop := polyGreatUptoRow.holds Try.pinned (OpenSpec.upto polyGreatSpec)

/-- 'sapperlaw8.PolyNothing', WHERE WHAT IT READS IS OF BULK AT MOST 1048576: true; the input reads as it did. -/
def polyNothingUptoRow : OpenClaim := { program := "ytcapjjmikapmfaa", sum := "c1e494c10ae4c6d1fd701c25e696c119d02c4991d73d8df1bfe468992d7cfdd2", func := "sapper/sapperlaw8.PolyNothing", spec := "polyNothing", inPlace := ["math/bits.Add64"], unfollowed := true, recurses := true, apart := false, narrowed := true }
def PolyNothingUptoSaid : Prop := polyNothingUptoRow.holds Try.pinned (OpenSpec.upto polyNothingSpec)

/-- 'sapperlaw8.PolyOne', WHERE WHAT IT READS IS OF BULK AT MOST 1048576: true; the input reads as it did. -/
def polyOneUptoRow : OpenClaim := { program := "ytcapjjmikapmfaa", sum := "c1e494c10ae4c6d1fd701c25e696c119d02c4991d73d8df1bfe468992d7cfdd2", func := "sapper/sapperlaw8.PolyOne", spec := "polyOne", inPlace := ["math/bits.Add64"], unfollowed := true, recurses := true, apart := false, narrowed := true }
def PolyOneUptoSaid : Prop := polyOneUptoRow.holds Try.pinned (OpenSpec.upto polyOneSpec)

/-- 'sapperlaw3.HmacReckons', WHERE WHAT IT READS IS OF BULK AT MOST 1048576: true; the input reads as it did. -/
def hmacReckonsUptoRow : OpenClaim := { program := "ytcapjjmikapmfaa", sum := "c1e494c10ae4c6d1fd701c25e696c119d02c4991d73d8df1bfe468992d7cfdd2", func := "sapper/sapperlaw3.HmacReckons", spec := "hmacReckons", apart := false, narrowed := true }
def HmacReckonsUptoSaid : Prop := hmacReckonsUptoRow.holds Try.pinned (OpenSpec.upto hmacReckonsSpec)

/-- 'sapperlaw3.HmacKeys', WHERE WHAT IT READS IS OF BULK AT MOST 1048576: true; the input reads as it did. -/
def hmacKeysUptoRow : OpenClaim := { program := "ytcapjjmikapmfaa", sum := "c1e494c10ae4c6d1fd701c25e696c119d02c4991d73d8df1bfe468992d7cfdd2", func := "sapper/sapperlaw3.HmacKeys", spec := "hmacKeys", apart := false, narrowed := true }
def HmacKeysUptoSaid : Prop := hmacKeysUptoRow.holds Try.pinned (OpenSpec.upto hmacKeysSpec)

/-- 'sapperlaw3.HmacParts', WHERE WHAT IT READS IS OF BULK AT MOST 1048576: true; the input reads as it did. -/
def hmacPartsUptoRow : OpenClaim := { program := "ytcapjjmikapmfaa", sum := "c1e494c10ae4c6d1fd701c25e696c119d02c4991d73d8df1bfe468992d7cfdd2", func := "sapper/sapperlaw3.HmacParts", spec := "hmacParts", apart := false, narrowed := true }
def HmacPartsUptoSaid : Prop := hmacPartsUptoRow.holds Try.pinned (OpenSpec.upto hmacPartsSpec)

/-- 'sapperlaw4.HkdfForms', WHERE WHAT IT READS IS OF BULK AT MOST 1048576: true; the input reads as it did. -/
def hkdfFormsUptoRow : OpenClaim := { program := "ytcapjjmikapmfaa", sum := "c1e494c10ae4c6d1fd701c25e696c119d02c4991d73d8df1bfe468992d7cfdd2", func := "sapper/sapperlaw4.HkdfForms", spec := "hkdfForms", unfollowed := true, recurses := true, apart := false, narrowed := true }
def HkdfFormsUptoSaid : Prop := hkdfFormsUptoRow.holds Try.pinned (OpenSpec.upto hkdfFormsSpec)

/-- 'sapperlaw4.HkdfChain', WHERE WHAT IT READS IS OF BULK AT MOST 1048576: true; the input reads as it did. -/
def hkdfChainUptoRow : OpenClaim := { program := "ytcapjjmikapmfaa", sum := "c1e494c10ae4c6d1fd701c25e696c119d02c4991d73d8df1bfe468992d7cfdd2", func := "sapper/sapperlaw4.HkdfChain", spec := "hkdfChain", unfollowed := true, recurses := true, apart := false, narrowed := true }
def HkdfChainUptoSaid : Prop := hkdfChainUptoRow.holds Try.pinned (OpenSpec.upto hkdfChainSpec)

/-- 'sapperlaw4.HkdfBounds', WHERE WHAT IT READS IS OF BULK AT MOST 1048576: true; the input reads as it did. -/
def hkdfBoundsUptoRow : OpenClaim := { program := "ytcapjjmikapmfaa", sum := "c1e494c10ae4c6d1fd701c25e696c119d02c4991d73d8df1bfe468992d7cfdd2", func := "sapper/sapperlaw4.HkdfBounds", spec := "hkdfBounds", unfollowed := true, recurses := true, apart := false, narrowed := true }
def HkdfBoundsUptoSaid : Prop := hkdfBoundsUptoRow.holds Try.pinned (OpenSpec.upto hkdfBoundsSpec)

/-- 'sapperlaw4.HkdfFirst', WHERE WHAT IT READS IS OF BULK AT MOST 1048576: true; the input reads as it did. -/
def hkdfFirstUptoRow : OpenClaim := { program := "ytcapjjmikapmfaa", sum := "c1e494c10ae4c6d1fd701c25e696c119d02c4991d73d8df1bfe468992d7cfdd2", func := "sapper/sapperlaw4.HkdfFirst", spec := "hkdfFirst", unfollowed := true, recurses := true, apart := false, narrowed := true }
def HkdfFirstUptoSaid : Prop := hkdfFirstUptoRow.holds Try.pinned (OpenSpec.upto hkdfFirstSpec)

end Rows
end Go.Proofs.Ytcapjjmikapmfaa
