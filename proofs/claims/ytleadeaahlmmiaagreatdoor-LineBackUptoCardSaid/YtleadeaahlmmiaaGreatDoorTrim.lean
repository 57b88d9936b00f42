/- The library's strings.Trim at an ASCII set of bytes, laid at this program. -/
import Derived.Shelf.Strings.SlTrimAscii
import Derived.Test.YtleadeaahlmmiaaGreatDoorShelf
namespace Go.Proofs.YtleadeaahlmmiaaGreatDoor.Trim
open Go.RowKit
theorem trim_any (s set : ByteArray) (w : World) (hs : s.size ≤ 140737488351232) (hcs : set.size < 4294967281) (ha : ∀ c ∈ set.data.toList, c.toNat < 128) :
    Calls Tryz.prog 38 #[.string s, .string set] w fun e w' => e = .returned (.string ⟨(Lib.trimS s.data.toList set.data.toList).toArray⟩) ∧ Below w.heap.size w w' :=
  Any.strings_Trim_laid Tryz.lays160 (by kernel_rfl) s set w (by omega) hcs (fun _ b hb => ha b (List.mem_of_getElem? hb))
end Go.Proofs.YtleadeaahlmmiaaGreatDoor.Trim
