/- Plain: the program of the law's own example. -/
import Derived.Test.YtkdbajpdcadliaaGreatDoorPb
import Derived.Test.YtkdbajpdcadliaaGreatDoorPs
set_option linter.unusedVariables false
namespace Go.Proofs.YtkdbajpdcadliaaGreatDoor.Pg

def nm0 : ByteArray := ⟨#[80]⟩
def got0 : ByteArray := ⟨#[103, 111, 116, 32, 36, 48]⟩
def gotx : ByteArray := ⟨#[103, 111, 116, 32, 120]⟩
def ss0 : List Step := [⟨1, 0, 0, []⟩, ⟨8, 0, 0, [got0]⟩, ⟨13, 0, 0, []⟩]
def lit0 : ByteArray := ⟨#[80, 82, 79, 71, 82, 65, 77, 32, 80, 10, 82, 69, 65, 68, 32, 48, 10, 83, 69, 78, 68, 32, 103, 111, 116, 32, 36, 48, 10, 69, 78, 68, 10]⟩
theorem dl0 : dl 0 = [48] := by
  unfold dl Lib.itoa
  rw [if_neg (by decide), show (0 : Int).toNat = 0 from rfl, decDigits_small 0 (by decide)]
  rfl
theorem text0 : formatS ⟨nm0, ss0⟩ = lit0 := by
  unfold formatS formatL ss0
  simp only [List.flatMap_cons, List.flatMap_nil, lineL, dl0]
  rfl
theorem valid0 : validS ⟨nm0, ss0⟩ = true := by decide +kernel
theorem parse0 : parseS lit0 = (⟨nm0, ss0⟩, 0) := by rw [← text0]; exact parseS_format valid0
def six0 : List ByteArray := [⟨#[]⟩, ⟨#[]⟩, ⟨#[]⟩, ⟨#[]⟩, ⟨#[]⟩, ⟨#[]⟩]
def sixx : List ByteArray := [⟨#[120]⟩, ⟨#[]⟩, ⟨#[]⟩, ⟨#[]⟩, ⟨#[]⟩, ⟨#[]⟩]
def r00 : RunS := ⟨0, six0, ⟨#[32, 32]⟩, 0, 0⟩
def r01 : RunS := ⟨1, sixx, ⟨#[32, 32]⟩, 1, 0⟩
theorem ok00 : RunOk (⟨nm0, ss0⟩ : Prog).steps.length r00 := runOk_iff.1 (by decide +kernel)
theorem ok01 : RunOk (⟨nm0, ss0⟩ : Prog).steps.length r01 := runOk_iff.1 (by decide +kernel)
theorem ask00 : askedR ⟨nm0, ss0⟩ r00 = 0 := asked_zero valid0 ok00
theorem ask01 : askedR ⟨nm0, ss0⟩ r01 = 0 := asked_zero valid0 ok01
theorem want00 : wantS ⟨nm0, ss0⟩ r00 = (r00, ⟨1, 0, 0, []⟩) := rfl
theorem fill0 : fillS sixx got0 = gotx := rfl
theorem want01 : wantS ⟨nm0, ss0⟩ r01 = (r01, ⟨8, 0, 0, [gotx]⟩) := rfl
theorem give00 : giveS ⟨nm0, ss0⟩ r00 ⟨#[32, 32]⟩ ⟨#[120]⟩ = (r01, 0) := by
  unfold giveS
  rw [if_neg (by rw [ask00]; simp), if_neg (by decide +kernel)]
  rfl
end Go.Proofs.YtkdbajpdcadliaaGreatDoor.Pg
