/- Every abstract function is the program's: the check, by the kernel. Functions that defer stand in tables of their own. -/
import Derived.Test.YtcjglgeamdfpmaaQAmD
import Derived.Test.YtcjglgeamdfpmaaQAc
import Derived.Test.YtcjglgeamdfpmaaProg
import Derived.KernelRfl
set_option maxRecDepth 100000
namespace Go.Am
open Go Go.Proofs
theorem k_billinglaw23_LexerScans : chkF Try.prog 5 a_billinglaw23_LexerScans = true := by kernel_rfl
theorem k_billinglaw23_LexerBack : chkF Try.prog 6 a_billinglaw23_LexerBack = true := by kernel_rfl
theorem k_billinglaw23_LexerJoins : chkF Try.prog 7 a_billinglaw23_LexerJoins = true := by kernel_rfl
theorem k_billinglaw23_LexerPlaces : chkF Try.prog 8 a_billinglaw23_LexerPlaces = true := by kernel_rfl
theorem k_billinglaw23_LexerWords : chkF Try.prog 9 a_billinglaw23_LexerWords = true := by kernel_rfl
theorem k_billinglaw23_LexerLimits : chkF Try.prog 10 a_billinglaw23_LexerLimits = true := by kernel_rfl
theorem k_billinglaw23_awake : chkF Try.prog 26 a_billinglaw23_awake = true := by kernel_rfl
theorem k_billingref23_Scan : chkF Try.prog 28 a_billingref23_Scan = true := by kernel_rfl
theorem k_billingref23_Same : chkF Try.prog 29 a_billingref23_Same = true := by kernel_rfl
theorem k_billingref23_Proper : chkF Try.prog 30 a_billingref23_Proper = true := by kernel_rfl
theorem k_billingref23_Value : chkF Try.prog 31 a_billingref23_Value = true := by kernel_rfl
theorem k_billingref23_Source : chkF Try.prog 32 a_billingref23_Source = true := by kernel_rfl
theorem k_billingref23_Skip : chkF Try.prog 33 a_billingref23_Skip = true := by kernel_rfl
theorem k_lexer_Quote : chkF Try.prog 34 a_lexer_Quote = true := by kernel_rfl
theorem k_lexer_Keyword : chkF Try.prog 35 a_lexer_Keyword = true := by kernel_rfl
theorem k_billingref23_Keyword : chkF Try.prog 36 a_billingref23_Keyword = true := by kernel_rfl
theorem k_billingref23_Quote : chkF Try.prog 37 a_billingref23_Quote = true := by kernel_rfl
theorem k_lexer_scanner_next : chkF Try.prog 67 a_lexer_scanner_next = true := by kernel_rfl
theorem k_billingref23_token : chkF Try.prog 68 a_billingref23_token = true := by kernel_rfl
theorem k_billingref23_Has : chkF Try.prog 69 a_billingref23_Has = true := by kernel_rfl
theorem k_billingref23_inText : chkF Try.prog 70 a_billingref23_inText = true := by kernel_rfl
theorem k_lexer_scanner_blanks : chkF Try.prog 113 a_lexer_scanner_blanks = true := by kernel_rfl
theorem k_lexer_lower : chkF Try.prog 114 a_lexer_lower = true := by kernel_rfl
theorem k_lexer_scanner_word : chkF Try.prog 115 a_lexer_scanner_word = true := by kernel_rfl
theorem k_lexer_digit : chkF Try.prog 116 a_lexer_digit = true := by kernel_rfl
theorem k_lexer_scanner_number : chkF Try.prog 117 a_lexer_scanner_number = true := by kernel_rfl
theorem k_lexer_scanner_text : chkF Try.prog 118 a_lexer_scanner_text = true := by kernel_rfl
theorem k_lexer_scanner_symbol : chkF Try.prog 119 a_lexer_scanner_symbol = true := by kernel_rfl
theorem k_billingref23_Lower : chkF Try.prog 120 a_billingref23_Lower = true := by kernel_rfl
theorem k_billingref23_word : chkF Try.prog 121 a_billingref23_word = true := by kernel_rfl
theorem k_billingref23_Digit : chkF Try.prog 122 a_billingref23_Digit = true := by kernel_rfl
theorem k_billingref23_number : chkF Try.prog 123 a_billingref23_number = true := by kernel_rfl
theorem k_billingref23_text : chkF Try.prog 124 a_billingref23_text = true := by kernel_rfl
theorem k_billingref23_symbol : chkF Try.prog 125 a_billingref23_symbol = true := by kernel_rfl
theorem k_lexer_fail : chkF Try.prog 161 a_lexer_fail = true := by kernel_rfl
theorem k_billingref23_inWord : chkF Try.prog 162 a_billingref23_inWord = true := by kernel_rfl
theorem k_billingref23_Symbols : chkF Try.prog 163 a_billingref23_Symbols = true := by kernel_rfl
theorem kd_lexer_Scan : chkFD Try.prog n_lexer_Scan d_lexer_Scan = true := by kernel_rfl
theorem ft_ok : ∀ f af, ft f = some af → chkF Try.prog f af = true := by
  intro f af h
  unfold ft at h
  split at h
  · cases h; exact k_billinglaw23_LexerScans
  · cases h; exact k_billinglaw23_LexerBack
  · cases h; exact k_billinglaw23_LexerJoins
  · cases h; exact k_billinglaw23_LexerPlaces
  · cases h; exact k_billinglaw23_LexerWords
  · cases h; exact k_billinglaw23_LexerLimits
  · cases h; exact k_billinglaw23_awake
  · cases h; exact k_billingref23_Scan
  · cases h; exact k_billingref23_Same
  · cases h; exact k_billingref23_Proper
  · cases h; exact k_billingref23_Value
  · cases h; exact k_billingref23_Source
  · cases h; exact k_billingref23_Skip
  · cases h; exact k_lexer_Quote
  · cases h; exact k_lexer_Keyword
  · cases h; exact k_billingref23_Keyword
  · cases h; exact k_billingref23_Quote
  · cases h; exact k_lexer_scanner_next
  · cases h; exact k_billingref23_token
  · cases h; exact k_billingref23_Has
  · cases h; exact k_billingref23_inText
  · cases h; exact k_lexer_scanner_blanks
  · cases h; exact k_lexer_lower
  · cases h; exact k_lexer_scanner_word
  · cases h; exact k_lexer_digit
  · cases h; exact k_lexer_scanner_number
  · cases h; exact k_lexer_scanner_text
  · cases h; exact k_lexer_scanner_symbol
  · cases h; exact k_billingref23_Lower
  · cases h; exact k_billingref23_word
  · cases h; exact k_billingref23_Digit
  · cases h; exact k_billingref23_number
  · cases h; exact k_billingref23_text
  · cases h; exact k_billingref23_symbol
  · cases h; exact k_lexer_fail
  · cases h; exact k_billingref23_inWord
  · cases h; exact k_billingref23_Symbols
  · cases h
noncomputable def mach0 : Mach := ⟨ft, fun _ _ _ => none⟩
theorem sound0 : ∀ n, SoundCall Try.prog (callN mach0 n) := callN_sound mach0 soundCall_none ft_ok
noncomputable def T1 : FuncId → Option (AFD × Mach) := fun f => if f = n_lexer_Scan then some (d_lexer_Scan, mach0) else none
noncomputable def mach1 : Mach := ⟨ft, dcall T1⟩
theorem dsound1 : SoundCall Try.prog (dcall T1) := dcall_sound fun f D M h => by
  unfold T1 at h
  split at h
  · rename_i hf; cases h; subst hf; exact ⟨kd_lexer_Scan, sound0⟩
  · cases h
theorem sound1 : ∀ n, SoundCall Try.prog (callN mach1 n) := callN_sound mach1 dsound1 ft_ok
noncomputable def T2 : FuncId → Option (AFD × Mach) := fun f => if f = n_lexer_Scan then some (d_lexer_Scan, mach0) else none
noncomputable def mach : Mach := ⟨ft, dcall T2⟩
theorem dsound2 : SoundCall Try.prog (dcall T2) := dcall_sound fun f D M h => by
  unfold T2 at h
  split at h
  · rename_i hf; cases h; subst hf; exact ⟨kd_lexer_Scan, sound0⟩
  · cases h
theorem sound : SoundCall Try.prog (acall mach) := acall_sound mach dsound2 ft_ok
theorem ext1_none : ∀ f af, ft f = some af → ∀ vs h, dcall T1 f vs h = none := by
  intro f af h vs hp
  have : T1 f = none := by
    unfold T1
    split
    · rename_i hf; subst hf; cases h
    · rfl
  unfold dcall
  rw [this]
theorem ext2_none : ∀ f af, ft f = some af → ∀ vs h, dcall T2 f vs h = none := by
  intro f af h vs hp
  have : T2 f = none := by
    unfold T2
    repeat' split
    all_goals first | rfl | (rename_i hf; subst hf; cases h)
  unfold dcall
  rw [this]
theorem up1 : callLe (acall mach0) (acall mach1) := acall_up rfl (fun f args h r hr => by cases hr) ext1_none
theorem up : callLe (acall mach0) (acall mach) := acall_up rfl (fun f args h r hr => by cases hr) ext2_none
end Go.Am
