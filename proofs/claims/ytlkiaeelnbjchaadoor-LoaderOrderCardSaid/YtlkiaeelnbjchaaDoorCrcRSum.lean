/- The contracts of the reference's checksum: Update and Sum. -/
import Derived.Test.YtlkiaeelnbjchaaDoorCrcSum
namespace Go.Proofs.YtlkiaeelnbjchaaDoor
open Go.RowKit

theorem dbl_yes' (x : BitVec 32) (h : 2147483648 ≤ (x.toNat : Int)) : bits .xor .u32 ((x.toNat : Int) * 2 % 4294967296) 79764919 = ((Crc.dbl x).toNat : Int) :=
  dbl_yes x (by have := x.isLt; simp; omega)
theorem dbl_no' (x : BitVec 32) (h : ¬ 2147483648 ≤ (x.toNat : Int)) : (x.toNat : Int) * 2 % 4294967296 = ((Crc.dbl x).toNat : Int) :=
  dbl_no x (by have := x.isLt; simp; omega)

end Go.Proofs.YtlkiaeelnbjchaaDoor
