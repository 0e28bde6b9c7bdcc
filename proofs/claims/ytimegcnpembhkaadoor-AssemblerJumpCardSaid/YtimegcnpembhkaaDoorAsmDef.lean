/- The plain words of assembly: names, definitions, references, code; the answer of the check; the text and the labels. -/
import Derived.Test.YtimegcnpembhkaaDoorAsmSpec
namespace Go.Proofs.YtimegcnpembhkaaDoor
open Go.Lib

def isDig (c : UInt8) : Bool := decide (48 ≤ c.toNat) && decide (c.toNat ≤ 57)
def isLow (c : UInt8) : Bool := decide (97 ≤ c.toNat) && decide (c.toNat ≤ 122)
/-- the letters of a name -/
def nmCs : Bytes := [97, 98, 99, 100, 101, 102, 103, 104, 105, 106, 107, 108, 109, 110, 111, 112, 113, 114, 115, 116, 117, 118, 119, 120, 121, 122, 95, 48, 49, 50, 51, 52, 53, 54, 55, 56, 57]
/-- the signs and the digits -/
def cdCs : Bytes := [43, 45, 42, 47, 37, 94, 60, 64, 33, 63, 58, 59, 44, 46, 36, 48, 49, 50, 51, 52, 53, 54, 55, 56, 57]
def isNm (c : UInt8) : Bool := isLow c || c == 95 || isDig c
/-- is it a sign -/
def isSgn (c : UInt8) : Bool := [43, 45, 42, 47, 37, 94, 60, 64, 33, 63, 58, 59, 44, 46, 36].contains c
def isCd (c : UInt8) : Bool := isSgn c || isDig c

theorem u8_all {p : UInt8 → Prop} (h : ∀ n : Fin 256, p (UInt8.ofNat n.val)) (c : UInt8) : p c := by
  have := h ⟨c.toNat, c.toNat_lt⟩
  simpa using this
theorem nm_eq (c : UInt8) : nmCs.contains c = isNm c := u8_all (p := fun c => nmCs.contains c = isNm c) (by decide +kernel) c
theorem cd_eq (c : UInt8) : cdCs.contains c = isCd c := u8_all (p := fun c => cdCs.contains c = isCd c) (by decide +kernel) c

/-- is it a name -/
def nameB (s : Bytes) : Bool := match s with
  | [] => false
  | c :: _ => decide (s.length ≤ 40) && isLow c && s.all isNm
/-- the name that a token defines -/
def defN (s : Bytes) : Option Bytes := if s.getLast? = some 58 ∧ nameB s.dropLast = true then some s.dropLast else none
/-- the name that a token refers to -/
def refN (s : Bytes) : Option Bytes := match s with
  | 38 :: r => if nameB r = true then some r else none
  | _ => none
/-- does a token consist of signs and digits -/
def codeB (s : Bytes) : Bool := s.all isCd
end Go.Proofs.YtimegcnpembhkaaDoor
