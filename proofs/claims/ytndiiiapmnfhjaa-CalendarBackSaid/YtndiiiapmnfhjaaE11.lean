/- The ref's Parse. -/
import Derived.Test.YtndiiiapmnfhjaaE10
set_option linter.unusedSimpArgs false
namespace Go.Am
open Go Go.Pu

def three (a b c : Option Nat) : Int × Int := match a, b, c with
  | some y, some m, some d => dayP y m d
  | _, _, _ => (0, 1)
/-- The day of a text, or the error. -/
def parseP : List UInt8 → Int × Int
  | [a0, a1, a2, a3, a4, a5, a6, a7, a8, a9] => if a4 = 45 ∧ a7 = 45 then three (numD 0 [a0, a1, a2, a3]) (numD 0 [a5, a6]) (numD 0 [a8, a9]) else (0, 1)
  | _ => (0, 1)

theorem ten {s : List UInt8} (h : s.length = 10) : ∃ a0 a1 a2 a3 a4 a5 a6 a7 a8 a9, s = [a0, a1, a2, a3, a4, a5, a6, a7, a8, a9] := by
  match s, h with
  | [a0, a1, a2, a3, a4, a5, a6, a7, a8, a9], _ => exact ⟨_, _, _, _, _, _, _, _, _, _, rfl⟩
theorem parseP_len {s : List UInt8} (h : ¬ s.length = 10) : parseP s = (0, 1) := by
  unfold parseP
  split
  · exact (h rfl).elim
  · rfl

theorem u45 {x : UInt8} (h : ¬ x = 45) : ¬ x.toNat = 45 := fun e => h (UInt8.toNat_inj.1 e)

theorem numI_lo {o : Option Nat} (h : o ≠ none) : ¬ numI o < 0 := by
  cases o with
  | none => exact (h rfl).elim
  | some v => simp [numI]

theorem e_rParse (s : List UInt8) (h : Heap) : acall mach n_billingref03_Parse [.str s] h = some (.ret (.tup [.int .i64 (parseP s).1, .int .i64 (parseP s).2]) h) := by
  refine acall_fn rfl (af := a_billingref03_Parse) rfl rfl ?_
  by_cases hl : s.length = 10
  rotate_left
  · have q : ¬ ((s.length : Int) = 10) := by omega
    rw [parseP_len hl]
    simp [List.replicate, go_sem, q]
  obtain ⟨a0, a1, a2, a3, a4, a5, a6, a7, a8, a9, rfl⟩ := ten hl
  have c1 := fun h => e_number [a0, a1, a2, a3] h (by simp)
  have c2 := fun h => e_number [a5, a6] h (by simp)
  have c3 := fun h => e_number [a8, a9] h (by simp)
  simp only [parseP]
  by_cases h4 : a4 = 45
  rotate_left
  · have q : ¬ ((a4.toNat : Int) = 45) := by have := u45 h4; omega
    simp [List.replicate, go_sem, h4, q, nt' q]
  by_cases h7 : a7 = 45
  rotate_left
  · have q : ¬ ((a7.toNat : Int) = 45) := by have := u45 h7; omega
    subst h4
    simp [List.replicate, go_sem, h7, q, nt' q]
  subst h4; subst h7
  generalize hn1 : numD 0 [a0, a1, a2, a3] = o1 at *
  generalize hn2 : numD 0 [a5, a6] = o2 at *
  generalize hn3 : numD 0 [a8, a9] = o3 at *
  cases o1 with
  | none => simp [List.replicate, go_sem, three, numI, c1, c2, c3]
  | some y =>
    cases o2 with
    | none => simp [List.replicate, go_sem, three, numI, c1, c2, c3]
    | some m =>
      cases o3 with
      | none => simp [List.replicate, go_sem, three, numI, c1, c2, c3]
      | some d =>
        have e := fun h => e_rDay y m d h
        have k1 : ¬ ((y : Int) < 0) := by omega
        have k2 : ¬ ((m : Int) < 0) := by omega
        have k3 : ¬ ((d : Int) < 0) := by omega
        simp [List.replicate, go_sem, three, numI, c1, c2, c3, e, k1, k2, k3]
end Go.Am
