/-
  Walks of the library: strings.Trim at blanks.
-/
import Derived.Test.YtkfffoolpdilnaaGreatDoorBytes
import Derived.Test.YtkfffoolpdilnaaGreatDoorShelf
import Derived.Shelf.Strings.SlTrimAscii
namespace Go.Proofs.YtkfffoolpdilnaaGreatDoor
open Go.RowKit Go.Bd
theorem set_info : (Tryz.prog.info? 200).map (fun i => (i.zero, i.size)) = some (some (.agg (Array.replicate 256 (.bool false))), 256) := by kernel_rfl
theorem trimS_blank (l : Bs) : Lib.trimS l [32, 9] = trim l := by
  have e : (fun c => ([32, 9] : Bs).contains c) = Go.Bd.blank := by
    funext c
    rw [Bool.eq_iff_iff, blank_iff]
    simp only [List.contains_eq_mem, List.mem_cons, List.not_mem_nil, or_false, decide_eq_true_eq, ← UInt8.toNat_inj]
    simp; omega
  rw [← dropLR, Lib.trimS, Lib.trimLeftS, Lib.trimRightS, dropL, dropR, e]
theorem strTrim_any (s : ByteArray) (w : World) (hs : s.size ≤ 9223372036854775807) :
    Calls Tryz.prog 84 #[.string s, .string ⟨#[32, 9]⟩] w fun e w' => e = .returned (strV (trim s.data.toList)) ∧ Below w.heap.size w w' := by
  refine (Any.strings_Trim_laid Tryz.lays160 set_info s ⟨#[32, 9]⟩ w hs (by decide) (ascii_of_all (by decide))).mono ?_
  rintro e w' ⟨he, hb⟩
  refine ⟨?_, hb⟩
  rw [he]
  exact congrArg (fun l : Bs => Ending.returned (strV l)) (trimS_blank _)
end Go.Proofs.YtkfffoolpdilnaaGreatDoor
