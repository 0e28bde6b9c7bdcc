/- A string by the list of its bytes. -/
import Derived.Test.YtimegcnpembhkaaDoorAsmSpec
namespace Go.Proofs.YtimegcnpembhkaaDoor
open Go.Lib

/-- a string by its bytes -/
def BA (l : Bytes) : ByteArray := ⟨l.toArray⟩
theorem BA_data (l : Bytes) : (BA l).data.toList = l := rfl
theorem BA_of (s : ByteArray) : BA s.data.toList = s := rfl
theorem BA_size (l : Bytes) : (BA l).size = l.length := rfl
theorem BA_append (l m : Bytes) : BA (l ++ m) = BA l ++ BA m := bytes_inj (by simp [BA])
theorem BA_inj {l m : Bytes} (h : BA l = BA m) : l = m := by rw [← BA_data l, h, BA_data]

theorem ext_oneB (s : ByteArray) (k : Nat) (h : k < s.size) : (s.extract k (k + 1)).data.toList = [s[k]] := by
  have e : s.data.toList.drop k = s[k] :: s.data.toList.drop (k + 1) := List.drop_eq_getElem_cons (show k < s.data.toList.length from h)
  simp only [ByteArray.data_extract, Array.toList_extract, List.extract_eq_take_drop]
  rw [e, show k + 1 - k = 1 by omega]
  rfl
theorem ext_BA (s : ByteArray) (a b : Nat) : s.extract a b = BA ((s.data.toList.drop a).take (b - a)) := bytes_inj (by rw [BA_data]; simp [ByteArray.data_extract, List.extract_eq_take_drop])
end Go.Proofs.YtimegcnpembhkaaDoor
