/- Every abstract function is the program's: the check, by the kernel. -/
import Derived.Test.YtkoecjhljfmkfaaAm28
import Derived.Test.YtkoecjhljfmkfaaAc
import Derived.Test.YtkoecjhljfmkfaaProg
import Derived.KernelRfl
set_option maxRecDepth 100000
namespace Go.Am
open Go Go.Proofs
theorem k_billinglaw32_CounterChecks : chkF Try.prog 3 a_billinglaw32_CounterChecks = true := by kernel_rfl
theorem k_billinglaw32_CounterGets : chkF Try.prog 4 a_billinglaw32_CounterGets = true := by kernel_rfl
theorem k_billinglaw32_CounterAdds : chkF Try.prog 5 a_billinglaw32_CounterAdds = true := by kernel_rfl
theorem k_billinglaw32_CounterOne : chkF Try.prog 6 a_billinglaw32_CounterOne = true := by kernel_rfl
theorem k_billinglaw32_CounterOrder : chkF Try.prog 7 a_billinglaw32_CounterOrder = true := by kernel_rfl
theorem k_billinglaw32_CounterTotals : chkF Try.prog 8 a_billinglaw32_CounterTotals = true := by kernel_rfl
theorem k_billinglaw32_awake : chkF Try.prog 9 a_billinglaw32_awake = true := by kernel_rfl
theorem k_counter_Check : chkF Try.prog 10 a_counter_Check = true := by kernel_rfl
theorem k_billingref32_Check : chkF Try.prog 11 a_billingref32_Check = true := by kernel_rfl
theorem k_counter_Get : chkF Try.prog 12 a_counter_Get = true := by kernel_rfl
theorem k_billingref32_Get : chkF Try.prog 13 a_billingref32_Get = true := by kernel_rfl
theorem k_billingref32_Same : chkF Try.prog 14 a_billingref32_Same = true := by kernel_rfl
theorem k_counter_Drop : chkF Try.prog 15 a_counter_Drop = true := by kernel_rfl
theorem k_billingref32_Drop : chkF Try.prog 16 a_billingref32_Drop = true := by kernel_rfl
theorem k_counter_Add : chkF Try.prog 17 a_counter_Add = true := by kernel_rfl
theorem k_billingref32_Add : chkF Try.prog 18 a_billingref32_Add = true := by kernel_rfl
theorem k_counter_permitted : chkF Try.prog 19 a_counter_permitted = true := by kernel_rfl
theorem k_counter_ranged : chkF Try.prog 20 a_counter_ranged = true := by kernel_rfl
theorem k_counter_compare : chkF Try.prog 21 a_counter_compare = true := by kernel_rfl
theorem k_billingref32_keyed : chkF Try.prog 22 a_billingref32_keyed = true := by kernel_rfl
theorem k_billingref32_within : chkF Try.prog 23 a_billingref32_within = true := by kernel_rfl
theorem k_billingref32_order : chkF Try.prog 24 a_billingref32_order = true := by kernel_rfl
theorem k_counter_Add_1 : chkF Try.prog 25 a_counter_Add_1 = true := by kernel_rfl
theorem k_counter_known : chkF Try.prog 26 a_counter_known = true := by kernel_rfl
theorem k_billingref32_sign : chkF Try.prog 27 a_billingref32_sign = true := by kernel_rfl
theorem ft_ok : ∀ f af, ft f = some af → chkF Try.prog f af = true := by
  intro f af h
  unfold ft at h
  split at h
  · cases h; exact k_billinglaw32_CounterChecks
  · cases h; exact k_billinglaw32_CounterGets
  · cases h; exact k_billinglaw32_CounterAdds
  · cases h; exact k_billinglaw32_CounterOne
  · cases h; exact k_billinglaw32_CounterOrder
  · cases h; exact k_billinglaw32_CounterTotals
  · cases h; exact k_billinglaw32_awake
  · cases h; exact k_counter_Check
  · cases h; exact k_billingref32_Check
  · cases h; exact k_counter_Get
  · cases h; exact k_billingref32_Get
  · cases h; exact k_billingref32_Same
  · cases h; exact k_counter_Drop
  · cases h; exact k_billingref32_Drop
  · cases h; exact k_counter_Add
  · cases h; exact k_billingref32_Add
  · cases h; exact k_counter_permitted
  · cases h; exact k_counter_ranged
  · cases h; exact k_counter_compare
  · cases h; exact k_billingref32_keyed
  · cases h; exact k_billingref32_within
  · cases h; exact k_billingref32_order
  · cases h; exact k_counter_Add_1
  · cases h; exact k_counter_known
  · cases h; exact k_billingref32_sign
  · cases h
noncomputable def mach : Mach := ⟨ft, fun _ _ _ => none⟩
theorem sound : SoundCall Try.prog (acall mach) := acall_sound mach soundCall_none ft_ok
end Go.Am
