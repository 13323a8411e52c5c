/- strings.Compare, by the shelf. -/
import Derived.Test.YtbloppbiojopaaaGreatDoorLay
import Derived.Test.YtbloppbiojopaaaGreatDoorRef1
set_option maxRecDepth 100000
namespace Go.Proofs.YtbloppbiojopaaaGreatDoor
open Go Go.RowKit Go.Shelf Go.Lib

theorem strCompare_any (a b : ByteArray) (w : World) : Calls Tryz.prog 37 #[.string a, .string b] w fun e w' => e = .returned (.int .i64 (Lib.compareBytes a.data.toList b.data.toList)) ∧ w' = w :=
  Any.strings_Compare lay_strCompare a b w
end Go.Proofs.YtbloppbiojopaaaGreatDoor
