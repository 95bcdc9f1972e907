/- Every abstract function is the program's: the check, by the kernel. Functions that defer stand in tables of their own. -/
import Derived.Test.YtcjglgeamdfpmaaGreatXAmD
import Derived.Test.YtcjglgeamdfpmaaGreatXAc
import Derived.Test.YtcjglgeamdfpmaaGreatProg
import Derived.KernelRfl
set_option maxRecDepth 100000
namespace Go.Am
open Go Go.Proofs
theorem k_billinglaw24_ParserTariffs : chkF Tryz.prog 3 a_billinglaw24_ParserTariffs = true := by kernel_rfl
theorem k_billinglaw24_awake : chkF Tryz.prog 4 a_billinglaw24_awake = true := by kernel_rfl
theorem k_billingref24_Tariff : chkF Tryz.prog 6 a_billingref24_Tariff = true := by kernel_rfl
theorem k_billingref24_SameTariff : chkF Tryz.prog 7 a_billingref24_SameTariff = true := by kernel_rfl
theorem k_parser_caught : chkF Tryz.prog 11 a_parser_caught = true := by kernel_rfl
theorem k_parser_reader_tariff : chkF Tryz.prog 12 a_parser_reader_tariff = true := by kernel_rfl
theorem k_parser_reader_end : chkF Tryz.prog 13 a_parser_reader_end = true := by kernel_rfl
theorem k_billingref23_Scan : chkF Tryz.prog 14 a_billingref23_Scan = true := by kernel_rfl
theorem k_billingref24_Reader_tariff : chkF Tryz.prog 15 a_billingref24_Reader_tariff = true := by kernel_rfl
theorem k_billingref24_Reader_end : chkF Tryz.prog 16 a_billingref24_Reader_end = true := by kernel_rfl
theorem k_billingref24_Reader_now : chkF Tryz.prog 17 a_billingref24_Reader_now = true := by kernel_rfl
theorem k_billingref24_SameTexts : chkF Tryz.prog 18 a_billingref24_SameTexts = true := by kernel_rfl
theorem k_billingref24_SameExpr : chkF Tryz.prog 19 a_billingref24_SameExpr = true := by kernel_rfl
theorem k_billingref24_sameBands : chkF Tryz.prog 20 a_billingref24_sameBands = true := by kernel_rfl
theorem k_billingref24_sameRates : chkF Tryz.prog 21 a_billingref24_sameRates = true := by kernel_rfl
theorem k_parser_reader_either : chkF Tryz.prog 23 a_parser_reader_either = true := by kernel_rfl
theorem k_lexer_scanner_next : chkF Tryz.prog 25 a_lexer_scanner_next = true := by kernel_rfl
theorem k_parser_reader_needWord : chkF Tryz.prog 26 a_parser_reader_needWord = true := by kernel_rfl
theorem k_parser_reader_name : chkF Tryz.prog 27 a_parser_reader_name = true := by kernel_rfl
theorem k_parser_reader_date : chkF Tryz.prog 28 a_parser_reader_date = true := by kernel_rfl
theorem k_parser_reader_peek : chkF Tryz.prog 29 a_parser_reader_peek = true := by kernel_rfl
theorem k_parser_reader_fixed : chkF Tryz.prog 30 a_parser_reader_fixed = true := by kernel_rfl
theorem k_parser_reader_needSymbol : chkF Tryz.prog 31 a_parser_reader_needSymbol = true := by kernel_rfl
theorem k_parser_reader_takeWord : chkF Tryz.prog 32 a_parser_reader_takeWord = true := by kernel_rfl
theorem k_parser_reader_zone : chkF Tryz.prog 33 a_parser_reader_zone = true := by kernel_rfl
theorem k_parser_reader_band : chkF Tryz.prog 34 a_parser_reader_band = true := by kernel_rfl
theorem k_parser_reader_rate : chkF Tryz.prog 35 a_parser_reader_rate = true := by kernel_rfl
theorem k_parser_reader_discount : chkF Tryz.prog 36 a_parser_reader_discount = true := by kernel_rfl
theorem k_parser_fail : chkF Tryz.prog 37 a_parser_fail = true := by kernel_rfl
theorem k_billingref23_Skip : chkF Tryz.prog 38 a_billingref23_Skip = true := by kernel_rfl
theorem k_billingref23_token : chkF Tryz.prog 39 a_billingref23_token = true := by kernel_rfl
theorem k_billingref24_Reader_expect : chkF Tryz.prog 40 a_billingref24_Reader_expect = true := by kernel_rfl
theorem k_billingref24_Reader_name : chkF Tryz.prog 41 a_billingref24_Reader_name = true := by kernel_rfl
theorem k_billingref24_Reader_date : chkF Tryz.prog 42 a_billingref24_Reader_date = true := by kernel_rfl
theorem k_billingref24_Reader_clock : chkF Tryz.prog 43 a_billingref24_Reader_clock = true := by kernel_rfl
theorem k_billingref24_Reader_accept : chkF Tryz.prog 44 a_billingref24_Reader_accept = true := by kernel_rfl
theorem k_billingref24_Reader_zone : chkF Tryz.prog 45 a_billingref24_Reader_zone = true := by kernel_rfl
theorem k_billingref24_Reader_band : chkF Tryz.prog 46 a_billingref24_Reader_band = true := by kernel_rfl
theorem k_billingref24_Reader_rate : chkF Tryz.prog 47 a_billingref24_Reader_rate = true := by kernel_rfl
theorem k_billingref24_Reader_discount : chkF Tryz.prog 48 a_billingref24_Reader_discount = true := by kernel_rfl
theorem k_billingref24_Reader_fail : chkF Tryz.prog 49 a_billingref24_Reader_fail = true := by kernel_rfl
theorem k_billingref24_SameRate : chkF Tryz.prog 50 a_billingref24_SameRate = true := by kernel_rfl
theorem k_parser_reader_both : chkF Tryz.prog 51 a_parser_reader_both = true := by kernel_rfl
theorem k_parser_two : chkF Tryz.prog 52 a_parser_two = true := by kernel_rfl
theorem k_lexer_scanner_blanks : chkF Tryz.prog 53 a_lexer_scanner_blanks = true := by kernel_rfl
theorem k_lexer_lower : chkF Tryz.prog 54 a_lexer_lower = true := by kernel_rfl
theorem k_lexer_scanner_word : chkF Tryz.prog 55 a_lexer_scanner_word = true := by kernel_rfl
theorem k_lexer_digit : chkF Tryz.prog 56 a_lexer_digit = true := by kernel_rfl
theorem k_lexer_scanner_number : chkF Tryz.prog 57 a_lexer_scanner_number = true := by kernel_rfl
theorem k_lexer_scanner_text : chkF Tryz.prog 58 a_lexer_scanner_text = true := by kernel_rfl
theorem k_lexer_scanner_symbol : chkF Tryz.prog 59 a_lexer_scanner_symbol = true := by kernel_rfl
theorem k_lexer_Keyword : chkF Tryz.prog 60 a_lexer_Keyword = true := by kernel_rfl
theorem k_parser_reader_skip : chkF Tryz.prog 61 a_parser_reader_skip = true := by kernel_rfl
theorem k_calendar_Day : chkF Tryz.prog 62 a_calendar_Day = true := by kernel_rfl
theorem k_parser_reader_takeSymbol : chkF Tryz.prog 63 a_parser_reader_takeSymbol = true := by kernel_rfl
theorem k_parser_reader_word : chkF Tryz.prog 64 a_parser_reader_word = true := by kernel_rfl
theorem k_parser_reader_digits : chkF Tryz.prog 65 a_parser_reader_digits = true := by kernel_rfl
theorem k_parser_reader_slot : chkF Tryz.prog 66 a_parser_reader_slot = true := by kernel_rfl
theorem k_parser_kind : chkF Tryz.prog 67 a_parser_kind = true := by kernel_rfl
theorem k_parser_reader_nameOrAny : chkF Tryz.prog 68 a_parser_reader_nameOrAny = true := by kernel_rfl
theorem k_parser_reader_number : chkF Tryz.prog 69 a_parser_reader_number = true := by kernel_rfl
theorem k_parser_reader_step : chkF Tryz.prog 70 a_parser_reader_step = true := by kernel_rfl
theorem k_billingref23_Lower : chkF Tryz.prog 71 a_billingref23_Lower = true := by kernel_rfl
theorem k_billingref23_word : chkF Tryz.prog 72 a_billingref23_word = true := by kernel_rfl
theorem k_billingref23_Digit : chkF Tryz.prog 73 a_billingref23_Digit = true := by kernel_rfl
theorem k_billingref23_number : chkF Tryz.prog 74 a_billingref23_number = true := by kernel_rfl
theorem k_billingref23_text : chkF Tryz.prog 75 a_billingref23_text = true := by kernel_rfl
theorem k_billingref23_symbol : chkF Tryz.prog 76 a_billingref23_symbol = true := by kernel_rfl
theorem k_billingref24_Reader_plain : chkF Tryz.prog 77 a_billingref24_Reader_plain = true := by kernel_rfl
theorem k_billingref24_Reader_next : chkF Tryz.prog 78 a_billingref24_Reader_next = true := by kernel_rfl
theorem k_billingref24_Reader_digits : chkF Tryz.prog 79 a_billingref24_Reader_digits = true := by kernel_rfl
theorem k_billingref24_Day : chkF Tryz.prog 80 a_billingref24_Day = true := by kernel_rfl
theorem k_billingref24_Reader_is : chkF Tryz.prog 81 a_billingref24_Reader_is = true := by kernel_rfl
theorem k_billingref24_Reader_slot : chkF Tryz.prog 82 a_billingref24_Reader_slot = true := by kernel_rfl
theorem k_billingref24_Reader_word : chkF Tryz.prog 83 a_billingref24_Reader_word = true := by kernel_rfl
theorem k_billingref24_Kinds : chkF Tryz.prog 84 a_billingref24_Kinds = true := by kernel_rfl
theorem k_billingref24_Reader_either : chkF Tryz.prog 85 a_billingref24_Reader_either = true := by kernel_rfl
theorem k_billingref24_Reader_number : chkF Tryz.prog 86 a_billingref24_Reader_number = true := by kernel_rfl
theorem k_billingref24_Reader_step : chkF Tryz.prog 87 a_billingref24_Reader_step = true := by kernel_rfl
theorem k_billingref24_Reader_expr : chkF Tryz.prog 88 a_billingref24_Reader_expr = true := by kernel_rfl
theorem k_billingref24_SameSteps : chkF Tryz.prog 89 a_billingref24_SameSteps = true := by kernel_rfl
theorem k_parser_reader_negated : chkF Tryz.prog 90 a_parser_reader_negated = true := by kernel_rfl
theorem k_lexer_fail : chkF Tryz.prog 91 a_lexer_fail = true := by kernel_rfl
theorem k_calendar_Length : chkF Tryz.prog 92 a_calendar_Length = true := by kernel_rfl
theorem k_calendar_before : chkF Tryz.prog 93 a_calendar_before = true := by kernel_rfl
theorem k_calendar_days : chkF Tryz.prog 94 a_calendar_days = true := by kernel_rfl
theorem k_parser_reader_symbol : chkF Tryz.prog 95 a_parser_reader_symbol = true := by kernel_rfl
theorem k_parser_reader_day : chkF Tryz.prog 96 a_parser_reader_day = true := by kernel_rfl
theorem k_parser_reader_time : chkF Tryz.prog 97 a_parser_reader_time = true := by kernel_rfl
theorem k_billingref23_inWord : chkF Tryz.prog 98 a_billingref23_inWord = true := by kernel_rfl
theorem k_billingref23_Value : chkF Tryz.prog 99 a_billingref23_Value = true := by kernel_rfl
theorem k_billingref23_inText : chkF Tryz.prog 100 a_billingref23_inText = true := by kernel_rfl
theorem k_billingref23_Symbols : chkF Tryz.prog 101 a_billingref23_Symbols = true := by kernel_rfl
theorem k_billingref23_Keyword : chkF Tryz.prog 102 a_billingref23_Keyword = true := by kernel_rfl
theorem k_billingref24_Length : chkF Tryz.prog 103 a_billingref24_Length = true := by kernel_rfl
theorem k_billingref24_Days : chkF Tryz.prog 104 a_billingref24_Days = true := by kernel_rfl
theorem k_billingref24_Reader_time : chkF Tryz.prog 105 a_billingref24_Reader_time = true := by kernel_rfl
theorem k_billingref24_Place : chkF Tryz.prog 106 a_billingref24_Place = true := by kernel_rfl
theorem k_billingref24_Reader_both : chkF Tryz.prog 107 a_billingref24_Reader_both = true := by kernel_rfl
theorem k_billingref24_two : chkF Tryz.prog 108 a_billingref24_two = true := by kernel_rfl
theorem k_parser_reader_compared : chkF Tryz.prog 109 a_parser_reader_compared = true := by kernel_rfl
theorem k_calendar_leap : chkF Tryz.prog 110 a_calendar_leap = true := by kernel_rfl
theorem k_parser_weekday : chkF Tryz.prog 111 a_parser_weekday = true := by kernel_rfl
theorem k_billingref23_Has : chkF Tryz.prog 112 a_billingref23_Has = true := by kernel_rfl
theorem k_billingref24_Reader_negated : chkF Tryz.prog 113 a_billingref24_Reader_negated = true := by kernel_rfl
theorem k_parser_reader_sum : chkF Tryz.prog 114 a_parser_reader_sum = true := by kernel_rfl
theorem k_billingref24_Reader_compared : chkF Tryz.prog 115 a_billingref24_Reader_compared = true := by kernel_rfl
theorem k_parser_reader_product : chkF Tryz.prog 116 a_parser_reader_product = true := by kernel_rfl
theorem k_billingref24_Reader_sum : chkF Tryz.prog 117 a_billingref24_Reader_sum = true := by kernel_rfl
theorem k_parser_reader_primary : chkF Tryz.prog 118 a_parser_reader_primary = true := by kernel_rfl
theorem k_billingref24_Reader_product : chkF Tryz.prog 119 a_billingref24_Reader_product = true := by kernel_rfl
theorem k_parser_attribute : chkF Tryz.prog 120 a_parser_attribute = true := by kernel_rfl
theorem k_billingref24_Reader_primary : chkF Tryz.prog 121 a_billingref24_Reader_primary = true := by kernel_rfl
theorem k_billingref24_Attributes : chkF Tryz.prog 122 a_billingref24_Attributes = true := by kernel_rfl
theorem kd_parser_Tariff : chkFD Tryz.prog n_parser_Tariff d_parser_Tariff = true := by kernel_rfl
theorem kd_parser_Expr : chkFD Tryz.prog n_parser_Expr d_parser_Expr = true := by kernel_rfl
theorem kd_lexer_Scan : chkFD Tryz.prog n_lexer_Scan d_lexer_Scan = true := by kernel_rfl
theorem ft_ok : ∀ f af, ft f = some af → chkF Tryz.prog f af = true := by
  intro f af h
  unfold ft at h
  split at h
  · cases h; exact k_billinglaw24_ParserTariffs
  · cases h; exact k_billinglaw24_awake
  · cases h; exact k_billingref24_Tariff
  · cases h; exact k_billingref24_SameTariff
  · cases h; exact k_parser_caught
  · cases h; exact k_parser_reader_tariff
  · cases h; exact k_parser_reader_end
  · cases h; exact k_billingref23_Scan
  · cases h; exact k_billingref24_Reader_tariff
  · cases h; exact k_billingref24_Reader_end
  · cases h; exact k_billingref24_Reader_now
  · cases h; exact k_billingref24_SameTexts
  · cases h; exact k_billingref24_SameExpr
  · cases h; exact k_billingref24_sameBands
  · cases h; exact k_billingref24_sameRates
  · cases h; exact k_parser_reader_either
  · cases h; exact k_lexer_scanner_next
  · cases h; exact k_parser_reader_needWord
  · cases h; exact k_parser_reader_name
  · cases h; exact k_parser_reader_date
  · cases h; exact k_parser_reader_peek
  · cases h; exact k_parser_reader_fixed
  · cases h; exact k_parser_reader_needSymbol
  · cases h; exact k_parser_reader_takeWord
  · cases h; exact k_parser_reader_zone
  · cases h; exact k_parser_reader_band
  · cases h; exact k_parser_reader_rate
  · cases h; exact k_parser_reader_discount
  · cases h; exact k_parser_fail
  · cases h; exact k_billingref23_Skip
  · cases h; exact k_billingref23_token
  · cases h; exact k_billingref24_Reader_expect
  · cases h; exact k_billingref24_Reader_name
  · cases h; exact k_billingref24_Reader_date
  · cases h; exact k_billingref24_Reader_clock
  · cases h; exact k_billingref24_Reader_accept
  · cases h; exact k_billingref24_Reader_zone
  · cases h; exact k_billingref24_Reader_band
  · cases h; exact k_billingref24_Reader_rate
  · cases h; exact k_billingref24_Reader_discount
  · cases h; exact k_billingref24_Reader_fail
  · cases h; exact k_billingref24_SameRate
  · cases h; exact k_parser_reader_both
  · cases h; exact k_parser_two
  · cases h; exact k_lexer_scanner_blanks
  · cases h; exact k_lexer_lower
  · cases h; exact k_lexer_scanner_word
  · cases h; exact k_lexer_digit
  · cases h; exact k_lexer_scanner_number
  · cases h; exact k_lexer_scanner_text
  · cases h; exact k_lexer_scanner_symbol
  · cases h; exact k_lexer_Keyword
  · cases h; exact k_parser_reader_skip
  · cases h; exact k_calendar_Day
  · cases h; exact k_parser_reader_takeSymbol
  · cases h; exact k_parser_reader_word
  · cases h; exact k_parser_reader_digits
  · cases h; exact k_parser_reader_slot
  · cases h; exact k_parser_kind
  · cases h; exact k_parser_reader_nameOrAny
  · cases h; exact k_parser_reader_number
  · cases h; exact k_parser_reader_step
  · cases h; exact k_billingref23_Lower
  · cases h; exact k_billingref23_word
  · cases h; exact k_billingref23_Digit
  · cases h; exact k_billingref23_number
  · cases h; exact k_billingref23_text
  · cases h; exact k_billingref23_symbol
  · cases h; exact k_billingref24_Reader_plain
  · cases h; exact k_billingref24_Reader_next
  · cases h; exact k_billingref24_Reader_digits
  · cases h; exact k_billingref24_Day
  · cases h; exact k_billingref24_Reader_is
  · cases h; exact k_billingref24_Reader_slot
  · cases h; exact k_billingref24_Reader_word
  · cases h; exact k_billingref24_Kinds
  · cases h; exact k_billingref24_Reader_either
  · cases h; exact k_billingref24_Reader_number
  · cases h; exact k_billingref24_Reader_step
  · cases h; exact k_billingref24_Reader_expr
  · cases h; exact k_billingref24_SameSteps
  · cases h; exact k_parser_reader_negated
  · cases h; exact k_lexer_fail
  · cases h; exact k_calendar_Length
  · cases h; exact k_calendar_before
  · cases h; exact k_calendar_days
  · cases h; exact k_parser_reader_symbol
  · cases h; exact k_parser_reader_day
  · cases h; exact k_parser_reader_time
  · cases h; exact k_billingref23_inWord
  · cases h; exact k_billingref23_Value
  · cases h; exact k_billingref23_inText
  · cases h; exact k_billingref23_Symbols
  · cases h; exact k_billingref23_Keyword
  · cases h; exact k_billingref24_Length
  · cases h; exact k_billingref24_Days
  · cases h; exact k_billingref24_Reader_time
  · cases h; exact k_billingref24_Place
  · cases h; exact k_billingref24_Reader_both
  · cases h; exact k_billingref24_two
  · cases h; exact k_parser_reader_compared
  · cases h; exact k_calendar_leap
  · cases h; exact k_parser_weekday
  · cases h; exact k_billingref23_Has
  · cases h; exact k_billingref24_Reader_negated
  · cases h; exact k_parser_reader_sum
  · cases h; exact k_billingref24_Reader_compared
  · cases h; exact k_parser_reader_product
  · cases h; exact k_billingref24_Reader_sum
  · cases h; exact k_parser_reader_primary
  · cases h; exact k_billingref24_Reader_product
  · cases h; exact k_parser_attribute
  · cases h; exact k_billingref24_Reader_primary
  · cases h; exact k_billingref24_Attributes
  · cases h
noncomputable def mach0 : Mach := ⟨ft, fun _ _ _ => none⟩
theorem sound0 : ∀ n, SoundCall Tryz.prog (callN mach0 n) := callN_sound mach0 soundCall_none ft_ok
noncomputable def T1 : FuncId → Option (AFD × Mach) := fun f => if f = n_lexer_Scan then some (d_lexer_Scan, mach0) else none
noncomputable def mach1 : Mach := ⟨ft, dcall T1⟩
theorem dsound1 : SoundCall Tryz.prog (dcall T1) := dcall_sound fun f D M h => by
  unfold T1 at h
  split at h
  · rename_i hf; cases h; subst hf; exact ⟨kd_lexer_Scan, sound0⟩
  · cases h
theorem sound1 : ∀ n, SoundCall Tryz.prog (callN mach1 n) := callN_sound mach1 dsound1 ft_ok
noncomputable def T2 : FuncId → Option (AFD × Mach) := fun f => if f = n_lexer_Scan then some (d_lexer_Scan, mach0) else if f = n_parser_Tariff then some (d_parser_Tariff, mach1) else if f = n_parser_Expr then some (d_parser_Expr, mach1) else none
noncomputable def mach : Mach := ⟨ft, dcall T2⟩
theorem dsound2 : SoundCall Tryz.prog (dcall T2) := dcall_sound fun f D M h => by
  unfold T2 at h
  split at h
  · rename_i hf; cases h; subst hf; exact ⟨kd_lexer_Scan, sound0⟩
  split at h
  · rename_i hf; cases h; subst hf; exact ⟨kd_parser_Tariff, sound1⟩
  split at h
  · rename_i hf; cases h; subst hf; exact ⟨kd_parser_Expr, sound1⟩
  · cases h
theorem sound : SoundCall Tryz.prog (acall mach) := acall_sound mach dsound2 ft_ok
theorem ext1_none : ∀ f af, ft f = some af → ∀ vs h, dcall T1 f vs h = none := by
  intro f af h vs hp
  have : T1 f = none := by
    unfold T1
    split
    · rename_i hf; subst hf; cases h
    · rfl
  unfold dcall
  rw [this]
theorem ext2_none : ∀ f af, ft f = some af → ∀ vs h, dcall T2 f vs h = none := by
  intro f af h vs hp
  have : T2 f = none := by
    unfold T2
    repeat' split
    all_goals first | rfl | (rename_i hf; subst hf; cases h)
  unfold dcall
  rw [this]
theorem up1 : callLe (acall mach0) (acall mach1) := acall_up rfl (fun f args h r hr => by cases hr) ext1_none
theorem up : callLe (acall mach0) (acall mach) := acall_up rfl (fun f args h r hr => by cases hr) ext2_none
end Go.Am
