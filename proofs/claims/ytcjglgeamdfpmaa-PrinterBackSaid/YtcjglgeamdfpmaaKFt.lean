/- Every abstract function is the program's: the check, by the kernel. Functions that defer stand in tables of their own. -/
import Derived.Test.YtcjglgeamdfpmaaKAmD
import Derived.Test.YtcjglgeamdfpmaaKAc
import Derived.Test.YtcjglgeamdfpmaaProg
import Derived.KernelRfl
set_option maxRecDepth 100000
namespace Go.Am
open Go Go.Proofs
theorem k_billinglaw25_PrinterBack : chkF Try.prog 3 a_billinglaw25_PrinterBack = true := by kernel_rfl
theorem k_billingref25_Small : chkF Try.prog 19 a_billingref25_Small = true := by kernel_rfl
theorem k_billinglaw25_awake : chkF Try.prog 20 a_billinglaw25_awake = true := by kernel_rfl
theorem k_printer_Tariff : chkF Try.prog 21 a_printer_Tariff = true := by kernel_rfl
theorem k_billingref24_SameTariff : chkF Try.prog 23 a_billingref24_SameTariff = true := by kernel_rfl
theorem k_printer_Expr : chkF Try.prog 25 a_printer_Expr = true := by kernel_rfl
theorem k_billingref23_Value : chkF Try.prog 31 a_billingref23_Value = true := by kernel_rfl
theorem k_lexer_Quote : chkF Try.prog 34 a_lexer_Quote = true := by kernel_rfl
theorem k_lexer_Keyword : chkF Try.prog 35 a_lexer_Keyword = true := by kernel_rfl
theorem k_billingref23_Keyword : chkF Try.prog 36 a_billingref23_Keyword = true := by kernel_rfl
theorem k_billingref23_Quote : chkF Try.prog 37 a_billingref23_Quote = true := by kernel_rfl
theorem k_billingref25_SmallExpr : chkF Try.prog 39 a_billingref25_SmallExpr = true := by kernel_rfl
theorem k_billingref24_SameExpr : chkF Try.prog 43 a_billingref24_SameExpr = true := by kernel_rfl
theorem k_printer_printable : chkF Try.prog 48 a_printer_printable = true := by kernel_rfl
theorem k_calendar_Print : chkF Try.prog 49 a_calendar_Print = true := by kernel_rfl
theorem k_printer_join : chkF Try.prog 50 a_printer_join = true := by kernel_rfl
theorem k_printer_decimal : chkF Try.prog 51 a_printer_decimal = true := by kernel_rfl
theorem k_printer_list : chkF Try.prog 52 a_printer_list = true := by kernel_rfl
theorem k_printer_slots : chkF Try.prog 53 a_printer_slots = true := by kernel_rfl
theorem k_printer_rate : chkF Try.prog 54 a_printer_rate = true := by kernel_rfl
theorem k_printer_text : chkF Try.prog 55 a_printer_text = true := by kernel_rfl
theorem k_parser_caught : chkF Try.prog 57 a_parser_caught = true := by kernel_rfl
theorem k_parser_reader_tariff : chkF Try.prog 58 a_parser_reader_tariff = true := by kernel_rfl
theorem k_parser_reader_end : chkF Try.prog 59 a_parser_reader_end = true := by kernel_rfl
theorem k_billingref24_SameTexts : chkF Try.prog 60 a_billingref24_SameTexts = true := by kernel_rfl
theorem k_billingref24_sameBands : chkF Try.prog 61 a_billingref24_sameBands = true := by kernel_rfl
theorem k_billingref24_sameRates : chkF Try.prog 62 a_billingref24_sameRates = true := by kernel_rfl
theorem k_parser_reader_either : chkF Try.prog 64 a_parser_reader_either = true := by kernel_rfl
theorem k_printer_printableExpr : chkF Try.prog 65 a_printer_printableExpr = true := by kernel_rfl
theorem k_lexer_scanner_next : chkF Try.prog 67 a_lexer_scanner_next = true := by kernel_rfl
theorem k_billingref23_Has : chkF Try.prog 69 a_billingref23_Has = true := by kernel_rfl
theorem k_billingref23_inText : chkF Try.prog 70 a_billingref23_inText = true := by kernel_rfl
theorem k_billingref25_Count : chkF Try.prog 78 a_billingref25_Count = true := by kernel_rfl
theorem k_printer_name : chkF Try.prog 83 a_printer_name = true := by kernel_rfl
theorem k_printer_prefixes : chkF Try.prog 84 a_printer_prefixes = true := by kernel_rfl
theorem k_printer_printableSlots : chkF Try.prog 85 a_printer_printableSlots = true := by kernel_rfl
theorem k_printer_printableRate : chkF Try.prog 86 a_printer_printableRate = true := by kernel_rfl
theorem k_printer_number : chkF Try.prog 87 a_printer_number = true := by kernel_rfl
theorem k_calendar_Date : chkF Try.prog 88 a_calendar_Date = true := by kernel_rfl
theorem k_calendar_digits : chkF Try.prog 89 a_calendar_digits = true := by kernel_rfl
theorem k_printer_clock : chkF Try.prog 90 a_printer_clock = true := by kernel_rfl
theorem k_printer_kind : chkF Try.prog 91 a_printer_kind = true := by kernel_rfl
theorem k_printer_anyName : chkF Try.prog 92 a_printer_anyName = true := by kernel_rfl
theorem k_printer_operand : chkF Try.prog 93 a_printer_operand = true := by kernel_rfl
theorem k_printer_strength : chkF Try.prog 94 a_printer_strength = true := by kernel_rfl
theorem k_printer_sign : chkF Try.prog 95 a_printer_sign = true := by kernel_rfl
theorem k_parser_reader_needWord : chkF Try.prog 96 a_parser_reader_needWord = true := by kernel_rfl
theorem k_parser_reader_name : chkF Try.prog 97 a_parser_reader_name = true := by kernel_rfl
theorem k_parser_reader_date : chkF Try.prog 98 a_parser_reader_date = true := by kernel_rfl
theorem k_parser_reader_peek : chkF Try.prog 99 a_parser_reader_peek = true := by kernel_rfl
theorem k_parser_reader_fixed : chkF Try.prog 100 a_parser_reader_fixed = true := by kernel_rfl
theorem k_parser_reader_needSymbol : chkF Try.prog 101 a_parser_reader_needSymbol = true := by kernel_rfl
theorem k_parser_reader_takeWord : chkF Try.prog 102 a_parser_reader_takeWord = true := by kernel_rfl
theorem k_parser_reader_zone : chkF Try.prog 103 a_parser_reader_zone = true := by kernel_rfl
theorem k_parser_reader_band : chkF Try.prog 104 a_parser_reader_band = true := by kernel_rfl
theorem k_parser_reader_rate : chkF Try.prog 105 a_parser_reader_rate = true := by kernel_rfl
theorem k_parser_reader_discount : chkF Try.prog 106 a_parser_reader_discount = true := by kernel_rfl
theorem k_parser_fail : chkF Try.prog 107 a_parser_fail = true := by kernel_rfl
theorem k_billingref24_SameRate : chkF Try.prog 108 a_billingref24_SameRate = true := by kernel_rfl
theorem k_parser_reader_both : chkF Try.prog 109 a_parser_reader_both = true := by kernel_rfl
theorem k_parser_two : chkF Try.prog 110 a_parser_two = true := by kernel_rfl
theorem k_printer_operands : chkF Try.prog 111 a_printer_operands = true := by kernel_rfl
theorem k_printer_attribute : chkF Try.prog 112 a_printer_attribute = true := by kernel_rfl
theorem k_lexer_scanner_blanks : chkF Try.prog 113 a_lexer_scanner_blanks = true := by kernel_rfl
theorem k_lexer_lower : chkF Try.prog 114 a_lexer_lower = true := by kernel_rfl
theorem k_lexer_scanner_word : chkF Try.prog 115 a_lexer_scanner_word = true := by kernel_rfl
theorem k_lexer_digit : chkF Try.prog 116 a_lexer_digit = true := by kernel_rfl
theorem k_lexer_scanner_number : chkF Try.prog 117 a_lexer_scanner_number = true := by kernel_rfl
theorem k_lexer_scanner_text : chkF Try.prog 118 a_lexer_scanner_text = true := by kernel_rfl
theorem k_lexer_scanner_symbol : chkF Try.prog 119 a_lexer_scanner_symbol = true := by kernel_rfl
theorem k_printer_nameOrNone : chkF Try.prog 146 a_printer_nameOrNone = true := by kernel_rfl
theorem k_calendar_before : chkF Try.prog 147 a_calendar_before = true := by kernel_rfl
theorem k_calendar_days : chkF Try.prog 148 a_calendar_days = true := by kernel_rfl
theorem k_parser_reader_skip : chkF Try.prog 149 a_parser_reader_skip = true := by kernel_rfl
theorem k_calendar_Day : chkF Try.prog 150 a_calendar_Day = true := by kernel_rfl
theorem k_parser_reader_takeSymbol : chkF Try.prog 151 a_parser_reader_takeSymbol = true := by kernel_rfl
theorem k_parser_reader_word : chkF Try.prog 152 a_parser_reader_word = true := by kernel_rfl
theorem k_parser_reader_digits : chkF Try.prog 153 a_parser_reader_digits = true := by kernel_rfl
theorem k_parser_reader_slot : chkF Try.prog 154 a_parser_reader_slot = true := by kernel_rfl
theorem k_parser_kind : chkF Try.prog 155 a_parser_kind = true := by kernel_rfl
theorem k_parser_reader_nameOrAny : chkF Try.prog 156 a_parser_reader_nameOrAny = true := by kernel_rfl
theorem k_parser_reader_number : chkF Try.prog 157 a_parser_reader_number = true := by kernel_rfl
theorem k_parser_reader_step : chkF Try.prog 158 a_parser_reader_step = true := by kernel_rfl
theorem k_billingref24_SameSteps : chkF Try.prog 159 a_billingref24_SameSteps = true := by kernel_rfl
theorem k_parser_reader_negated : chkF Try.prog 160 a_parser_reader_negated = true := by kernel_rfl
theorem k_lexer_fail : chkF Try.prog 161 a_lexer_fail = true := by kernel_rfl
theorem k_calendar_leap : chkF Try.prog 175 a_calendar_leap = true := by kernel_rfl
theorem k_calendar_Length : chkF Try.prog 176 a_calendar_Length = true := by kernel_rfl
theorem k_parser_reader_symbol : chkF Try.prog 177 a_parser_reader_symbol = true := by kernel_rfl
theorem k_parser_reader_day : chkF Try.prog 178 a_parser_reader_day = true := by kernel_rfl
theorem k_parser_reader_time : chkF Try.prog 179 a_parser_reader_time = true := by kernel_rfl
theorem k_parser_reader_compared : chkF Try.prog 180 a_parser_reader_compared = true := by kernel_rfl
theorem k_parser_weekday : chkF Try.prog 182 a_parser_weekday = true := by kernel_rfl
theorem k_parser_reader_sum : chkF Try.prog 183 a_parser_reader_sum = true := by kernel_rfl
theorem k_parser_reader_product : chkF Try.prog 185 a_parser_reader_product = true := by kernel_rfl
theorem k_parser_reader_primary : chkF Try.prog 187 a_parser_reader_primary = true := by kernel_rfl
theorem k_parser_attribute : chkF Try.prog 189 a_parser_attribute = true := by kernel_rfl
theorem kd_parser_Tariff : chkFD Try.prog n_parser_Tariff d_parser_Tariff = true := by kernel_rfl
theorem kd_parser_Expr : chkFD Try.prog n_parser_Expr d_parser_Expr = true := by kernel_rfl
theorem kd_lexer_Scan : chkFD Try.prog n_lexer_Scan d_lexer_Scan = true := by kernel_rfl
theorem ft_ok : ∀ f af, ft f = some af → chkF Try.prog f af = true := by
  intro f af h
  unfold ft at h
  split at h
  · cases h; exact k_billinglaw25_PrinterBack
  · cases h; exact k_billingref25_Small
  · cases h; exact k_billinglaw25_awake
  · cases h; exact k_printer_Tariff
  · cases h; exact k_billingref24_SameTariff
  · cases h; exact k_printer_Expr
  · cases h; exact k_billingref23_Value
  · cases h; exact k_lexer_Quote
  · cases h; exact k_lexer_Keyword
  · cases h; exact k_billingref23_Keyword
  · cases h; exact k_billingref23_Quote
  · cases h; exact k_billingref25_SmallExpr
  · cases h; exact k_billingref24_SameExpr
  · cases h; exact k_printer_printable
  · cases h; exact k_calendar_Print
  · cases h; exact k_printer_join
  · cases h; exact k_printer_decimal
  · cases h; exact k_printer_list
  · cases h; exact k_printer_slots
  · cases h; exact k_printer_rate
  · cases h; exact k_printer_text
  · cases h; exact k_parser_caught
  · cases h; exact k_parser_reader_tariff
  · cases h; exact k_parser_reader_end
  · cases h; exact k_billingref24_SameTexts
  · cases h; exact k_billingref24_sameBands
  · cases h; exact k_billingref24_sameRates
  · cases h; exact k_parser_reader_either
  · cases h; exact k_printer_printableExpr
  · cases h; exact k_lexer_scanner_next
  · cases h; exact k_billingref23_Has
  · cases h; exact k_billingref23_inText
  · cases h; exact k_billingref25_Count
  · cases h; exact k_printer_name
  · cases h; exact k_printer_prefixes
  · cases h; exact k_printer_printableSlots
  · cases h; exact k_printer_printableRate
  · cases h; exact k_printer_number
  · cases h; exact k_calendar_Date
  · cases h; exact k_calendar_digits
  · cases h; exact k_printer_clock
  · cases h; exact k_printer_kind
  · cases h; exact k_printer_anyName
  · cases h; exact k_printer_operand
  · cases h; exact k_printer_strength
  · cases h; exact k_printer_sign
  · cases h; exact k_parser_reader_needWord
  · cases h; exact k_parser_reader_name
  · cases h; exact k_parser_reader_date
  · cases h; exact k_parser_reader_peek
  · cases h; exact k_parser_reader_fixed
  · cases h; exact k_parser_reader_needSymbol
  · cases h; exact k_parser_reader_takeWord
  · cases h; exact k_parser_reader_zone
  · cases h; exact k_parser_reader_band
  · cases h; exact k_parser_reader_rate
  · cases h; exact k_parser_reader_discount
  · cases h; exact k_parser_fail
  · cases h; exact k_billingref24_SameRate
  · cases h; exact k_parser_reader_both
  · cases h; exact k_parser_two
  · cases h; exact k_printer_operands
  · cases h; exact k_printer_attribute
  · cases h; exact k_lexer_scanner_blanks
  · cases h; exact k_lexer_lower
  · cases h; exact k_lexer_scanner_word
  · cases h; exact k_lexer_digit
  · cases h; exact k_lexer_scanner_number
  · cases h; exact k_lexer_scanner_text
  · cases h; exact k_lexer_scanner_symbol
  · cases h; exact k_printer_nameOrNone
  · cases h; exact k_calendar_before
  · cases h; exact k_calendar_days
  · cases h; exact k_parser_reader_skip
  · cases h; exact k_calendar_Day
  · cases h; exact k_parser_reader_takeSymbol
  · cases h; exact k_parser_reader_word
  · cases h; exact k_parser_reader_digits
  · cases h; exact k_parser_reader_slot
  · cases h; exact k_parser_kind
  · cases h; exact k_parser_reader_nameOrAny
  · cases h; exact k_parser_reader_number
  · cases h; exact k_parser_reader_step
  · cases h; exact k_billingref24_SameSteps
  · cases h; exact k_parser_reader_negated
  · cases h; exact k_lexer_fail
  · cases h; exact k_calendar_leap
  · cases h; exact k_calendar_Length
  · cases h; exact k_parser_reader_symbol
  · cases h; exact k_parser_reader_day
  · cases h; exact k_parser_reader_time
  · cases h; exact k_parser_reader_compared
  · cases h; exact k_parser_weekday
  · cases h; exact k_parser_reader_sum
  · cases h; exact k_parser_reader_product
  · cases h; exact k_parser_reader_primary
  · cases h; exact k_parser_attribute
  · cases h
noncomputable def mach0 : Mach := ⟨ft, fun _ _ _ => none⟩
theorem sound0 : ∀ n, SoundCall Try.prog (callN mach0 n) := callN_sound mach0 soundCall_none ft_ok
noncomputable def T1 : FuncId → Option (AFD × Mach) := fun f => if f = n_lexer_Scan then some (d_lexer_Scan, mach0) else none
noncomputable def mach1 : Mach := ⟨ft, dcall T1⟩
theorem dsound1 : SoundCall Try.prog (dcall T1) := dcall_sound fun f D M h => by
  unfold T1 at h
  split at h
  · rename_i hf; cases h; subst hf; exact ⟨kd_lexer_Scan, sound0⟩
  · cases h
theorem sound1 : ∀ n, SoundCall Try.prog (callN mach1 n) := callN_sound mach1 dsound1 ft_ok
noncomputable def T2 : FuncId → Option (AFD × Mach) := fun f => if f = n_lexer_Scan then some (d_lexer_Scan, mach0) else if f = n_parser_Tariff then some (d_parser_Tariff, mach1) else if f = n_parser_Expr then some (d_parser_Expr, mach1) else none
noncomputable def mach : Mach := ⟨ft, dcall T2⟩
theorem dsound2 : SoundCall Try.prog (dcall T2) := dcall_sound fun f D M h => by
  unfold T2 at h
  split at h
  · rename_i hf; cases h; subst hf; exact ⟨kd_lexer_Scan, sound0⟩
  split at h
  · rename_i hf; cases h; subst hf; exact ⟨kd_parser_Tariff, sound1⟩
  split at h
  · rename_i hf; cases h; subst hf; exact ⟨kd_parser_Expr, sound1⟩
  · cases h
theorem sound : SoundCall Try.prog (acall mach) := acall_sound mach dsound2 ft_ok
theorem ext1_none : ∀ f af, ft f = some af → ∀ vs h, dcall T1 f vs h = none := by
  intro f af h vs hp
  have : T1 f = none := by
    unfold T1
    split
    · rename_i hf; subst hf; cases h
    · rfl
  unfold dcall
  rw [this]
theorem ext2_none : ∀ f af, ft f = some af → ∀ vs h, dcall T2 f vs h = none := by
  intro f af h vs hp
  have : T2 f = none := by
    unfold T2
    repeat' split
    all_goals first | rfl | (rename_i hf; subst hf; cases h)
  unfold dcall
  rw [this]
theorem up1 : callLe (acall mach0) (acall mach1) := acall_up rfl (fun f args h r hr => by cases hr) ext1_none
theorem up : callLe (acall mach0) (acall mach) := acall_up rfl (fun f args h r hr => by cases hr) ext2_none
end Go.Am
