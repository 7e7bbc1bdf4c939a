/- Walks: strings.Builder: WriteByte and String, at a builder that the call has made itself. (The lines of the library's own worked contracts, turned to this program.) -/
import Derived.Test.YtcmacejpoihhlaaMgB
import Derived.Lib.Builder
import Derived.Lib.Strings
import Derived.Lib.Slices
import Derived.Lib.Walk
namespace Go.Proofs.Ytcmacejpoihhlaa
open Go.RowKit

theorem byteInfo : (Try.prog.info? 5).map (fun i => (i.zero, i.size, i.bytes)) = some (some (.int .u8 0), 1, 1) := by kernel_rfl
theorem byteCellsOf : Try.prog.cellsOf 5 = 1 := by kernel_rfl

end Go.Proofs.Ytcmacejpoihhlaa
