/- Every abstract function is the program's: the check, by the kernel. Functions that defer stand in tables of their own. -/
import Derived.Test.YtcjglgeamdfpmaaXAmD
import Derived.Test.YtcjglgeamdfpmaaXAc
import Derived.Test.YtcjglgeamdfpmaaProg
import Derived.KernelRfl
set_option maxRecDepth 100000
namespace Go.Am
open Go Go.Proofs
theorem k_billinglaw25_PrinterTariffs : chkF Try.prog 11 a_billinglaw25_PrinterTariffs = true := by kernel_rfl
theorem k_billinglaw25_PrinterExprs : chkF Try.prog 12 a_billinglaw25_PrinterExprs = true := by kernel_rfl
theorem k_billingref25_Small : chkF Try.prog 19 a_billingref25_Small = true := by kernel_rfl
theorem k_billinglaw25_awake : chkF Try.prog 20 a_billinglaw25_awake = true := by kernel_rfl
theorem k_printer_Tariff : chkF Try.prog 21 a_printer_Tariff = true := by kernel_rfl
theorem k_printer_Expr : chkF Try.prog 25 a_printer_Expr = true := by kernel_rfl
theorem k_billingref23_Value : chkF Try.prog 31 a_billingref23_Value = true := by kernel_rfl
theorem k_lexer_Quote : chkF Try.prog 34 a_lexer_Quote = true := by kernel_rfl
theorem k_lexer_Keyword : chkF Try.prog 35 a_lexer_Keyword = true := by kernel_rfl
theorem k_billingref23_Keyword : chkF Try.prog 36 a_billingref23_Keyword = true := by kernel_rfl
theorem k_billingref23_Quote : chkF Try.prog 37 a_billingref23_Quote = true := by kernel_rfl
theorem k_billingref25_Tariff : chkF Try.prog 38 a_billingref25_Tariff = true := by kernel_rfl
theorem k_billingref25_SmallExpr : chkF Try.prog 39 a_billingref25_SmallExpr = true := by kernel_rfl
theorem k_billingref25_Expr : chkF Try.prog 40 a_billingref25_Expr = true := by kernel_rfl
theorem k_printer_printable : chkF Try.prog 48 a_printer_printable = true := by kernel_rfl
theorem k_calendar_Print : chkF Try.prog 49 a_calendar_Print = true := by kernel_rfl
theorem k_printer_join : chkF Try.prog 50 a_printer_join = true := by kernel_rfl
theorem k_printer_decimal : chkF Try.prog 51 a_printer_decimal = true := by kernel_rfl
theorem k_printer_list : chkF Try.prog 52 a_printer_list = true := by kernel_rfl
theorem k_printer_slots : chkF Try.prog 53 a_printer_slots = true := by kernel_rfl
theorem k_printer_rate : chkF Try.prog 54 a_printer_rate = true := by kernel_rfl
theorem k_printer_text : chkF Try.prog 55 a_printer_text = true := by kernel_rfl
theorem k_printer_printableExpr : chkF Try.prog 65 a_printer_printableExpr = true := by kernel_rfl
theorem k_lexer_scanner_next : chkF Try.prog 67 a_lexer_scanner_next = true := by kernel_rfl
theorem k_billingref23_Has : chkF Try.prog 69 a_billingref23_Has = true := by kernel_rfl
theorem k_billingref23_inText : chkF Try.prog 70 a_billingref23_inText = true := by kernel_rfl
theorem k_billingref25_Whole : chkF Try.prog 71 a_billingref25_Whole = true := by kernel_rfl
theorem k_billingref25_head : chkF Try.prog 72 a_billingref25_head = true := by kernel_rfl
theorem k_billingref25_Joined : chkF Try.prog 73 a_billingref25_Joined = true := by kernel_rfl
theorem k_billingref25_bandLine : chkF Try.prog 74 a_billingref25_bandLine = true := by kernel_rfl
theorem k_billingref25_rateLine : chkF Try.prog 75 a_billingref25_rateLine = true := by kernel_rfl
theorem k_billingref25_Decimal : chkF Try.prog 76 a_billingref25_Decimal = true := by kernel_rfl
theorem k_billingref25_show : chkF Try.prog 77 a_billingref25_show = true := by kernel_rfl
theorem k_billingref25_Count : chkF Try.prog 78 a_billingref25_Count = true := by kernel_rfl
theorem k_billingref25_Printable : chkF Try.prog 79 a_billingref25_Printable = true := by kernel_rfl
theorem k_printer_name : chkF Try.prog 83 a_printer_name = true := by kernel_rfl
theorem k_printer_prefixes : chkF Try.prog 84 a_printer_prefixes = true := by kernel_rfl
theorem k_printer_printableSlots : chkF Try.prog 85 a_printer_printableSlots = true := by kernel_rfl
theorem k_printer_printableRate : chkF Try.prog 86 a_printer_printableRate = true := by kernel_rfl
theorem k_printer_number : chkF Try.prog 87 a_printer_number = true := by kernel_rfl
theorem k_calendar_Date : chkF Try.prog 88 a_calendar_Date = true := by kernel_rfl
theorem k_calendar_digits : chkF Try.prog 89 a_calendar_digits = true := by kernel_rfl
theorem k_printer_clock : chkF Try.prog 90 a_printer_clock = true := by kernel_rfl
theorem k_printer_kind : chkF Try.prog 91 a_printer_kind = true := by kernel_rfl
theorem k_printer_anyName : chkF Try.prog 92 a_printer_anyName = true := by kernel_rfl
theorem k_printer_operand : chkF Try.prog 93 a_printer_operand = true := by kernel_rfl
theorem k_printer_strength : chkF Try.prog 94 a_printer_strength = true := by kernel_rfl
theorem k_printer_sign : chkF Try.prog 95 a_printer_sign = true := by kernel_rfl
theorem k_printer_operands : chkF Try.prog 111 a_printer_operands = true := by kernel_rfl
theorem k_printer_attribute : chkF Try.prog 112 a_printer_attribute = true := by kernel_rfl
theorem k_lexer_scanner_blanks : chkF Try.prog 113 a_lexer_scanner_blanks = true := by kernel_rfl
theorem k_lexer_lower : chkF Try.prog 114 a_lexer_lower = true := by kernel_rfl
theorem k_lexer_scanner_word : chkF Try.prog 115 a_lexer_scanner_word = true := by kernel_rfl
theorem k_lexer_digit : chkF Try.prog 116 a_lexer_digit = true := by kernel_rfl
theorem k_lexer_scanner_number : chkF Try.prog 117 a_lexer_scanner_number = true := by kernel_rfl
theorem k_lexer_scanner_text : chkF Try.prog 118 a_lexer_scanner_text = true := by kernel_rfl
theorem k_lexer_scanner_symbol : chkF Try.prog 119 a_lexer_scanner_symbol = true := by kernel_rfl
theorem k_billingref23_Lower : chkF Try.prog 120 a_billingref23_Lower = true := by kernel_rfl
theorem k_billingref23_Digit : chkF Try.prog 122 a_billingref23_Digit = true := by kernel_rfl
theorem k_billingref25_zone : chkF Try.prog 126 a_billingref25_zone = true := by kernel_rfl
theorem k_billingref25_band : chkF Try.prog 127 a_billingref25_band = true := by kernel_rfl
theorem k_billingref25_rate : chkF Try.prog 128 a_billingref25_rate = true := by kernel_rfl
theorem k_billingref25_discount : chkF Try.prog 129 a_billingref25_discount = true := by kernel_rfl
theorem k_billingref25_Name : chkF Try.prog 130 a_billingref25_Name = true := by kernel_rfl
theorem k_billingref25_Date : chkF Try.prog 131 a_billingref25_Date = true := by kernel_rfl
theorem k_billingref25_Clock : chkF Try.prog 132 a_billingref25_Clock = true := by kernel_rfl
theorem k_billingref25_slot : chkF Try.prog 133 a_billingref25_slot = true := by kernel_rfl
theorem k_billingref24_Kinds : chkF Try.prog 134 a_billingref24_Kinds = true := by kernel_rfl
theorem k_billingref25_any : chkF Try.prog 135 a_billingref25_any = true := by kernel_rfl
theorem k_billingref25_step : chkF Try.prog 136 a_billingref25_step = true := by kernel_rfl
theorem k_billingref25_operand : chkF Try.prog 137 a_billingref25_operand = true := by kernel_rfl
theorem k_billingref25_Strength : chkF Try.prog 138 a_billingref25_Strength = true := by kernel_rfl
theorem k_billingref25_Symbol : chkF Try.prog 139 a_billingref25_Symbol = true := by kernel_rfl
theorem k_billingref25_Arity : chkF Try.prog 140 a_billingref25_Arity = true := by kernel_rfl
theorem k_billingref25_own : chkF Try.prog 141 a_billingref25_own = true := by kernel_rfl
theorem k_printer_nameOrNone : chkF Try.prog 146 a_printer_nameOrNone = true := by kernel_rfl
theorem k_calendar_before : chkF Try.prog 147 a_calendar_before = true := by kernel_rfl
theorem k_calendar_days : chkF Try.prog 148 a_calendar_days = true := by kernel_rfl
theorem k_lexer_fail : chkF Try.prog 161 a_lexer_fail = true := by kernel_rfl
theorem k_billingref25_digits : chkF Try.prog 164 a_billingref25_digits = true := by kernel_rfl
theorem k_billingref25_number : chkF Try.prog 165 a_billingref25_number = true := by kernel_rfl
theorem k_billingref24_Length : chkF Try.prog 166 a_billingref24_Length = true := by kernel_rfl
theorem k_billingref25_Two : chkF Try.prog 167 a_billingref25_Two = true := by kernel_rfl
theorem k_billingref25_Minute : chkF Try.prog 168 a_billingref25_Minute = true := by kernel_rfl
theorem k_billingref24_Days : chkF Try.prog 169 a_billingref24_Days = true := by kernel_rfl
theorem k_billingref24_Place : chkF Try.prog 170 a_billingref24_Place = true := by kernel_rfl
theorem k_billingref24_Attributes : chkF Try.prog 171 a_billingref24_Attributes = true := by kernel_rfl
theorem k_calendar_leap : chkF Try.prog 175 a_calendar_leap = true := by kernel_rfl
theorem kd_lexer_Scan : chkFD Try.prog n_lexer_Scan d_lexer_Scan = true := by kernel_rfl
theorem ft_ok : ∀ f af, ft f = some af → chkF Try.prog f af = true := by
  intro f af h
  unfold ft at h
  split at h
  · cases h; exact k_billinglaw25_PrinterTariffs
  · cases h; exact k_billinglaw25_PrinterExprs
  · cases h; exact k_billingref25_Small
  · cases h; exact k_billinglaw25_awake
  · cases h; exact k_printer_Tariff
  · cases h; exact k_printer_Expr
  · cases h; exact k_billingref23_Value
  · cases h; exact k_lexer_Quote
  · cases h; exact k_lexer_Keyword
  · cases h; exact k_billingref23_Keyword
  · cases h; exact k_billingref23_Quote
  · cases h; exact k_billingref25_Tariff
  · cases h; exact k_billingref25_SmallExpr
  · cases h; exact k_billingref25_Expr
  · cases h; exact k_printer_printable
  · cases h; exact k_calendar_Print
  · cases h; exact k_printer_join
  · cases h; exact k_printer_decimal
  · cases h; exact k_printer_list
  · cases h; exact k_printer_slots
  · cases h; exact k_printer_rate
  · cases h; exact k_printer_text
  · cases h; exact k_printer_printableExpr
  · cases h; exact k_lexer_scanner_next
  · cases h; exact k_billingref23_Has
  · cases h; exact k_billingref23_inText
  · cases h; exact k_billingref25_Whole
  · cases h; exact k_billingref25_head
  · cases h; exact k_billingref25_Joined
  · cases h; exact k_billingref25_bandLine
  · cases h; exact k_billingref25_rateLine
  · cases h; exact k_billingref25_Decimal
  · cases h; exact k_billingref25_show
  · cases h; exact k_billingref25_Count
  · cases h; exact k_billingref25_Printable
  · cases h; exact k_printer_name
  · cases h; exact k_printer_prefixes
  · cases h; exact k_printer_printableSlots
  · cases h; exact k_printer_printableRate
  · cases h; exact k_printer_number
  · cases h; exact k_calendar_Date
  · cases h; exact k_calendar_digits
  · cases h; exact k_printer_clock
  · cases h; exact k_printer_kind
  · cases h; exact k_printer_anyName
  · cases h; exact k_printer_operand
  · cases h; exact k_printer_strength
  · cases h; exact k_printer_sign
  · cases h; exact k_printer_operands
  · cases h; exact k_printer_attribute
  · cases h; exact k_lexer_scanner_blanks
  · cases h; exact k_lexer_lower
  · cases h; exact k_lexer_scanner_word
  · cases h; exact k_lexer_digit
  · cases h; exact k_lexer_scanner_number
  · cases h; exact k_lexer_scanner_text
  · cases h; exact k_lexer_scanner_symbol
  · cases h; exact k_billingref23_Lower
  · cases h; exact k_billingref23_Digit
  · cases h; exact k_billingref25_zone
  · cases h; exact k_billingref25_band
  · cases h; exact k_billingref25_rate
  · cases h; exact k_billingref25_discount
  · cases h; exact k_billingref25_Name
  · cases h; exact k_billingref25_Date
  · cases h; exact k_billingref25_Clock
  · cases h; exact k_billingref25_slot
  · cases h; exact k_billingref24_Kinds
  · cases h; exact k_billingref25_any
  · cases h; exact k_billingref25_step
  · cases h; exact k_billingref25_operand
  · cases h; exact k_billingref25_Strength
  · cases h; exact k_billingref25_Symbol
  · cases h; exact k_billingref25_Arity
  · cases h; exact k_billingref25_own
  · cases h; exact k_printer_nameOrNone
  · cases h; exact k_calendar_before
  · cases h; exact k_calendar_days
  · cases h; exact k_lexer_fail
  · cases h; exact k_billingref25_digits
  · cases h; exact k_billingref25_number
  · cases h; exact k_billingref24_Length
  · cases h; exact k_billingref25_Two
  · cases h; exact k_billingref25_Minute
  · cases h; exact k_billingref24_Days
  · cases h; exact k_billingref24_Place
  · cases h; exact k_billingref24_Attributes
  · cases h; exact k_calendar_leap
  · cases h
noncomputable def mach0 : Mach := ⟨ft, fun _ _ _ => none⟩
theorem sound0 : ∀ n, SoundCall Try.prog (callN mach0 n) := callN_sound mach0 soundCall_none ft_ok
noncomputable def T1 : FuncId → Option (AFD × Mach) := fun f => if f = n_lexer_Scan then some (d_lexer_Scan, mach0) else none
noncomputable def mach1 : Mach := ⟨ft, dcall T1⟩
noncomputable def T2 : FuncId → Option (AFD × Mach) := fun f => if f = n_lexer_Scan then some (d_lexer_Scan, mach0) else none
noncomputable def mach : Mach := ⟨ft, dcall T2⟩
theorem dsound2 : SoundCall Try.prog (dcall T2) := dcall_sound fun f D M h => by
  unfold T2 at h
  split at h
  · rename_i hf; cases h; subst hf; exact ⟨kd_lexer_Scan, sound0⟩
  · cases h
theorem sound : SoundCall Try.prog (acall mach) := acall_sound mach dsound2 ft_ok
theorem ext1_none : ∀ f af, ft f = some af → ∀ vs h, dcall T1 f vs h = none := by
  intro f af h vs hp
  have : T1 f = none := by
    unfold T1
    split
    · rename_i hf; subst hf; cases h
    · rfl
  unfold dcall
  rw [this]
theorem ext2_none : ∀ f af, ft f = some af → ∀ vs h, dcall T2 f vs h = none := by
  intro f af h vs hp
  have : T2 f = none := by
    unfold T2
    repeat' split
    all_goals first | rfl | (rename_i hf; subst hf; cases h)
  unfold dcall
  rw [this]
theorem up1 : callLe (acall mach0) (acall mach1) := acall_up rfl (fun f args h r hr => by cases hr) ext1_none
theorem up : callLe (acall mach0) (acall mach) := acall_up rfl (fun f args h r hr => by cases hr) ext2_none
end Go.Am
