/-
  The seat's types of comparators, and the functions that copy, compare and mark networks.
-/
import Derived.Test.YtddhlpmcikpinaaRulesC
import Derived.Test.YtddhlpmcikpinaaBase
namespace Go.Proofs.Ytddhlpmcikpinaa
open Go.RowKit V
theorem fd_of {P : Program} {s : TypeId} {f off : Nat} (h : (match P.underlying s with | some (.struct fields) => (match fields[f]? with | some fd => (match P.info? fd.type with | some ti => decide (fd.offset = off) && decide (ti.size ≠ 0) | none => false) | none => false) | _ => false) = true) : FdTy P s f off := by
  refine ⟨?_⟩
  split at h
  · rename_i fields h1
    split at h
    · rename_i fd h2
      split at h
      · rename_i ti h3
        simp only [Bool.and_eq_true, decide_eq_true_eq] at h
        exact ⟨fields, fd, ti, h1, h2, h.1, h3, h.2⟩
      · cases h
    · cases h
  · cases h
theorem st_of {P : Program} {t : TypeId} (h : (match P.underlying t with | some (.struct _) => true | _ => false) = true) : StTy P t := by
  refine ⟨?_⟩
  split at h
  · rename_i fs h1; exact ⟨fs, h1⟩
  · cases h
instance sl_comp : SlTy Try.prog 24 34 := ⟨by kernel_rfl⟩
instance el_comp : ElTy Try.prog 34 2 16 Zc := el_of (by kernel_rfl)
instance st_comp : StTy Try.prog 34 := st_of (by kernel_rfl)
instance fd_a : FdTy Try.prog 34 0 0 := fd_of (by kernel_rfl)
instance fd_b2 : FdTy Try.prog 34 1 1 := fd_of (by kernel_rfl)
end Go.Proofs.Ytddhlpmcikpinaa
