/- A PAGE, plain: what is encoded is decoded. -/
import Derived.Test.YtkhbemmcegmdaaaGreatDoorPgSplit
set_option linter.all false
set_option linter.unusedVariables false
namespace Go.Proofs.YtkhbemmcegmdaaaGreatDoor
theorem encB_len {d : List UInt8} (h : d.length ≤ 122) : (encB d).length = 128 := by
  unfold encB
  rw [List.length_append, bodyB_len h, sumB_len]
theorem many_enc {d : List UInt8} (h : d.length ≤ 122) : manyB (encB d) = d.length := by
  show 256 * (UInt8.ofNat (d.length / 256)).toNat + (UInt8.ofNat d.length).toNat = _
  simp
  omega
theorem dat_enc {d : List UInt8} (h : d.length ≤ 122) : datB (encB d) = d := by
  unfold datB
  rw [many_enc h]
  show ((d ++ List.replicate (122 - d.length) 0) ++ sumB (bodyB d)).take d.length = d
  rw [List.append_assoc, List.take_left]
theorem page_enc {d : List UInt8} (h : d.length ≤ 122) : pageB (encB d) = true := by
  rw [pageB_iff]
  exact ⟨encB_len h, by rw [many_enc h]; exact h, by rw [dat_enc h]⟩

end Go.Proofs.YtkhbemmcegmdaaaGreatDoor
