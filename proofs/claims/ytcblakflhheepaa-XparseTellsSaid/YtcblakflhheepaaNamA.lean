/- The names in a pool's text. -/
import Derived.Test.YtcblakflhheepaaBase
namespace Go.Proofs.Ytcblakflhheepaa
open Go.RowKit
set_option linter.unusedVariables false
set_option linter.unusedSimpArgs false

abbrev sSuper : ByteArray := ⟨#[115, 117, 112, 101, 114, 98, 108, 111, 99, 107]⟩
abbrev sDevice : ByteArray := ⟨#[100, 101, 118, 105, 99, 101]⟩
abbrev sSingle : ByteArray := ⟨#[115, 105, 110, 103, 108, 101, 95, 109, 97, 112, 112, 105, 110, 103]⟩
abbrev sRange : ByteArray := ⟨#[114, 97, 110, 103, 101, 95, 109, 97, 112, 112, 105, 110, 103]⟩
abbrev sTime : ByteArray := ⟨#[116, 105, 109, 101]⟩
abbrev sTx : ByteArray := ⟨#[116, 114, 97, 110, 115, 97, 99, 116, 105, 111, 110]⟩
abbrev sUnit : ByteArray := ⟨#[100, 97, 116, 97, 95, 98, 108, 111, 99, 107, 95, 115, 105, 122, 101]⟩
abbrev sData : ByteArray := ⟨#[110, 114, 95, 100, 97, 116, 97, 95, 98, 108, 111, 99, 107, 115]⟩
abbrev sUuid : ByteArray := ⟨#[117, 117, 105, 100]⟩
abbrev sId : ByteArray := ⟨#[100, 101, 118, 95, 105, 100]⟩
abbrev sMapped : ByteArray := ⟨#[109, 97, 112, 112, 101, 100, 95, 98, 108, 111, 99, 107, 115]⟩
abbrev sMade : ByteArray := ⟨#[99, 114, 101, 97, 116, 105, 111, 110, 95, 116, 105, 109, 101]⟩
abbrev sSnap : ByteArray := ⟨#[115, 110, 97, 112, 95, 116, 105, 109, 101]⟩
abbrev sOBlock : ByteArray := ⟨#[111, 114, 105, 103, 105, 110, 95, 98, 108, 111, 99, 107]⟩
abbrev sDBlock : ByteArray := ⟨#[100, 97, 116, 97, 95, 98, 108, 111, 99, 107]⟩
abbrev sOBegin : ByteArray := ⟨#[111, 114, 105, 103, 105, 110, 95, 98, 101, 103, 105, 110]⟩
abbrev sDBegin : ByteArray := ⟨#[100, 97, 116, 97, 95, 98, 101, 103, 105, 110]⟩
abbrev sLength : ByteArray := ⟨#[108, 101, 110, 103, 116, 104]⟩
end Go.Proofs.Ytcblakflhheepaa
