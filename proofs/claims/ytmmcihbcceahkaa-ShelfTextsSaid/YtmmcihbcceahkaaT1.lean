/- The types that the texts name. -/
import Derived.Test.YtmmcihbcceahkaaB9
import Derived.Test.YtmmcihbcceahkaaN1
import Derived.Test.YtmmcihbcceahkaaProg
namespace Go.SR
open Go Go.Proofs

theorem zc31 : (zc Try.prog 31).size = 6 := by kernel_rfl
theorem und93 : Try.prog.underlying 93 = some (.map 23 29) := by kernel_rfl
theorem und94 : Try.prog.underlying 94 = some (.map 23 4) := by kernel_rfl
theorem und23 : Try.prog.underlying 23 = some (.int .u32) := by kernel_rfl
theorem zero29 (w : World) : (zeroValue 29).run Try.prog w = .ok (.slice none 0 0) w := by
  have h : (Try.prog.info? 29).map (fun i => (i.zero, i.size, i.bytes)) = some (some (.slice none 0 0), 1, 24) := by kernel_rfl
  obtain ⟨i, hi, hz, _⟩ := info_parts h
  simp [zeroValue, typeInfo, hi, hz]
theorem zero4 (w : World) : (zeroValue 4).run Try.prog w = .ok (.bool false) w := by
  have h : (Try.prog.info? 4).map (fun i => (i.zero, i.size, i.bytes)) = some (some (.bool false), 1, 1) := by kernel_rfl
  obtain ⟨i, hi, hz, _⟩ := info_parts h
  simp [zeroValue, typeInfo, hi, hz]

theorem und22 : Try.prog.underlying 22 = some (.slice 5) := by kernel_rfl
theorem und29 : Try.prog.underlying 29 = some (.slice 23) := by kernel_rfl
theorem und25 : Try.prog.underlying 25 = some (.slice 31) := by kernel_rfl
theorem inf5 : (Try.prog.info? 5).map (fun i => (i.zero, i.size, i.bytes)) = some (some (.int .u8 0), 1, 1) := by kernel_rfl
theorem inf23 : (Try.prog.info? 23).map (fun i => (i.zero, i.size, i.bytes)) = some (some (.int .u32 0), 1, 4) := by kernel_rfl
theorem und107 : Try.prog.underlying 107 = some (.map 41 4) := by kernel_rfl
theorem und41 : Try.prog.underlying 41 = some (.int .u64) := by kernel_rfl
theorem zc46 : (zc Try.prog 46).size = 5 := by kernel_rfl

theorem siz5 : (Try.prog.info? 5).map (·.size) = some 1 := by kernel_rfl
end Go.SR
