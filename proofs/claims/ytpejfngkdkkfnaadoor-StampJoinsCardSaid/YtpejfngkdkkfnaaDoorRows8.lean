/- A row of rows of bytes, all owned, in blocks among G: kept, read, one appended. -/
import Derived.Test.YtpejfngkdkkfnaaDoorPush
import Derived.Test.YtpejfngkdkkfnaaDoorTakeS
namespace Go.Proofs.YtpejfngkdkkfnaaDoor
open Go.RowKit
theorem own8_cell {w : World} {base : Nat} {u : Value} {l : List UInt8} (h : Own8 w base u l) : u.oneCell' = true := by
  obtain ⟨A, c, rfl, _⟩ := h.shape
  rfl
end Go.Proofs.YtpejfngkdkkfnaaDoor
