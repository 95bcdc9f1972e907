/- Every abstract function is the program's: the check, by the kernel. -/
import Derived.Test.YtbnjembcmddjoaaAm28
import Derived.Test.YtbnjembcmddjoaaAc
import Derived.Test.YtbnjembcmddjoaaProg
import Derived.KernelRfl
set_option maxRecDepth 100000
namespace Go.Am
open Go Go.Proofs
theorem k_billinglaw07_CodecNumbers : chkF Try.prog 3 a_billinglaw07_CodecNumbers = true := by kernel_rfl
theorem k_billinglaw07_CodecApart : chkF Try.prog 4 a_billinglaw07_CodecApart = true := by kernel_rfl
theorem k_billinglaw07_CodecTexts : chkF Try.prog 5 a_billinglaw07_CodecTexts = true := by kernel_rfl
theorem k_billinglaw07_CodecReads : chkF Try.prog 6 a_billinglaw07_CodecReads = true := by kernel_rfl
theorem k_billinglaw08_FrameSums : chkF Try.prog 7 a_billinglaw08_FrameSums = true := by kernel_rfl
theorem k_billinglaw08_FrameAlls : chkF Try.prog 8 a_billinglaw08_FrameAlls = true := by kernel_rfl
theorem k_billinglaw08_FrameUnwraps : chkF Try.prog 9 a_billinglaw08_FrameUnwraps = true := by kernel_rfl
theorem k_billinglaw08_FrameChanged : chkF Try.prog 10 a_billinglaw08_FrameChanged = true := by kernel_rfl
theorem k_billinglaw08_FrameWraps : chkF Try.prog 11 a_billinglaw08_FrameWraps = true := by kernel_rfl
theorem k_billinglaw08_FrameLong : chkF Try.prog 12 a_billinglaw08_FrameLong = true := by kernel_rfl
theorem k_billinglaw08_FrameBack : chkF Try.prog 13 a_billinglaw08_FrameBack = true := by kernel_rfl
theorem k_billinglaw08_FrameTorn : chkF Try.prog 14 a_billinglaw08_FrameTorn = true := by kernel_rfl
theorem k_billinglaw07_CodecRecords : chkF Try.prog 15 a_billinglaw07_CodecRecords = true := by kernel_rfl
theorem k_billinglaw07_CodecCut : chkF Try.prog 16 a_billinglaw07_CodecCut = true := by kernel_rfl
theorem k_billinglaw07_CodecBack : chkF Try.prog 17 a_billinglaw07_CodecBack = true := by kernel_rfl
theorem k_billinglaw07_CodecOnly : chkF Try.prog 18 a_billinglaw07_CodecOnly = true := by kernel_rfl
theorem k_billingref07_Same : chkF Try.prog 19 a_billingref07_Same = true := by kernel_rfl
theorem k_codec_PutNumber : chkF Try.prog 20 a_codec_PutNumber = true := by kernel_rfl
theorem k_billingref07_PutNumber : chkF Try.prog 21 a_billingref07_PutNumber = true := by kernel_rfl
theorem k_billinglaw07_alive : chkF Try.prog 22 a_billinglaw07_alive = true := by kernel_rfl
theorem k_codec_PutText : chkF Try.prog 23 a_codec_PutText = true := by kernel_rfl
theorem k_codec_PutNumbers : chkF Try.prog 24 a_codec_PutNumbers = true := by kernel_rfl
theorem k_codec_PutRecord : chkF Try.prog 25 a_codec_PutRecord = true := by kernel_rfl
theorem k_codec_Number : chkF Try.prog 26 a_codec_Number = true := by kernel_rfl
theorem k_codec_Text : chkF Try.prog 27 a_codec_Text = true := by kernel_rfl
theorem k_billingref07_Text : chkF Try.prog 28 a_billingref07_Text = true := by kernel_rfl
theorem k_billingref07_PutText : chkF Try.prog 29 a_billingref07_PutText = true := by kernel_rfl
theorem k_billingref07_Number : chkF Try.prog 30 a_billingref07_Number = true := by kernel_rfl
theorem k_codec_Numbers : chkF Try.prog 31 a_codec_Numbers = true := by kernel_rfl
theorem k_billingref07_Numbers : chkF Try.prog 32 a_billingref07_Numbers = true := by kernel_rfl
theorem k_billingref07_SameInts : chkF Try.prog 33 a_billingref07_SameInts = true := by kernel_rfl
theorem k_frame_Sum : chkF Try.prog 34 a_frame_Sum = true := by kernel_rfl
theorem k_billingref08_Sum : chkF Try.prog 35 a_billingref08_Sum = true := by kernel_rfl
theorem k_billinglaw08_alive : chkF Try.prog 36 a_billinglaw08_alive = true := by kernel_rfl
theorem k_frame_All : chkF Try.prog 37 a_frame_All = true := by kernel_rfl
theorem k_billingref08_All : chkF Try.prog 38 a_billingref08_All = true := by kernel_rfl
theorem k_billingref08_SameAll : chkF Try.prog 39 a_billingref08_SameAll = true := by kernel_rfl
theorem k_frame_Unwrap : chkF Try.prog 40 a_frame_Unwrap = true := by kernel_rfl
theorem k_billingref08_Unwrap : chkF Try.prog 41 a_billingref08_Unwrap = true := by kernel_rfl
theorem k_frame_Wrap : chkF Try.prog 42 a_frame_Wrap = true := by kernel_rfl
theorem k_billinglaw08_few : chkF Try.prog 43 a_billinglaw08_few = true := by kernel_rfl
theorem k_billingref08_Wrap : chkF Try.prog 44 a_billingref08_Wrap = true := by kernel_rfl
theorem k_frame_Join : chkF Try.prog 45 a_frame_Join = true := by kernel_rfl
theorem k_billingref08_Join : chkF Try.prog 46 a_billingref08_Join = true := by kernel_rfl
theorem k_codec_Record : chkF Try.prog 47 a_codec_Record = true := by kernel_rfl
theorem k_billingref07_Record : chkF Try.prog 48 a_billingref07_Record = true := by kernel_rfl
theorem k_billingref07_PutRecord : chkF Try.prog 49 a_billingref07_PutRecord = true := by kernel_rfl
theorem k_codec_add : chkF Try.prog 50 a_codec_add = true := by kernel_rfl
theorem k_codec_grown : chkF Try.prog 51 a_codec_grown = true := by kernel_rfl
theorem k_billingref07_join : chkF Try.prog 52 a_billingref07_join = true := by kernel_rfl
theorem k_billingref07_Bytes : chkF Try.prog 53 a_billingref07_Bytes = true := by kernel_rfl
theorem k_codec_truth : chkF Try.prog 54 a_codec_truth = true := by kernel_rfl
theorem k_codec_scan : chkF Try.prog 55 a_codec_scan = true := by kernel_rfl
theorem k_codec_rest : chkF Try.prog 56 a_codec_rest = true := by kernel_rfl
theorem k_codec_length : chkF Try.prog 57 a_codec_length = true := by kernel_rfl
theorem k_billingref07_length : chkF Try.prog 58 a_billingref07_length = true := by kernel_rfl
theorem k_frame_locate : chkF Try.prog 59 a_frame_locate = true := by kernel_rfl
theorem k_frame_copied : chkF Try.prog 60 a_frame_copied = true := by kernel_rfl
theorem k_frame_wrap : chkF Try.prog 61 a_frame_wrap = true := by kernel_rfl
theorem k_codec_source_number : chkF Try.prog 62 a_codec_source_number = true := by kernel_rfl
theorem k_codec_source_text : chkF Try.prog 63 a_codec_source_text = true := by kernel_rfl
theorem k_codec_source_flag : chkF Try.prog 64 a_codec_source_flag = true := by kernel_rfl
theorem k_billingref07_reader_number : chkF Try.prog 65 a_billingref07_reader_number = true := by kernel_rfl
theorem k_billingref07_reader_text : chkF Try.prog 66 a_billingref07_reader_text = true := by kernel_rfl
theorem k_billingref07_reader_truth : chkF Try.prog 67 a_billingref07_reader_truth = true := by kernel_rfl
theorem k_billingref07_truth : chkF Try.prog 68 a_billingref07_truth = true := by kernel_rfl
theorem k_codec_zigzag : chkF Try.prog 69 a_codec_zigzag = true := by kernel_rfl
theorem k_codec_back : chkF Try.prog 70 a_codec_back = true := by kernel_rfl
theorem ft_ok : ∀ f af, ft f = some af → chkF Try.prog f af = true := by
  intro f af h
  unfold ft at h
  split at h
  · cases h; exact k_billinglaw07_CodecNumbers
  · cases h; exact k_billinglaw07_CodecApart
  · cases h; exact k_billinglaw07_CodecTexts
  · cases h; exact k_billinglaw07_CodecReads
  · cases h; exact k_billinglaw08_FrameSums
  · cases h; exact k_billinglaw08_FrameAlls
  · cases h; exact k_billinglaw08_FrameUnwraps
  · cases h; exact k_billinglaw08_FrameChanged
  · cases h; exact k_billinglaw08_FrameWraps
  · cases h; exact k_billinglaw08_FrameLong
  · cases h; exact k_billinglaw08_FrameBack
  · cases h; exact k_billinglaw08_FrameTorn
  · cases h; exact k_billinglaw07_CodecRecords
  · cases h; exact k_billinglaw07_CodecCut
  · cases h; exact k_billinglaw07_CodecBack
  · cases h; exact k_billinglaw07_CodecOnly
  · cases h; exact k_billingref07_Same
  · cases h; exact k_codec_PutNumber
  · cases h; exact k_billingref07_PutNumber
  · cases h; exact k_billinglaw07_alive
  · cases h; exact k_codec_PutText
  · cases h; exact k_codec_PutNumbers
  · cases h; exact k_codec_PutRecord
  · cases h; exact k_codec_Number
  · cases h; exact k_codec_Text
  · cases h; exact k_billingref07_Text
  · cases h; exact k_billingref07_PutText
  · cases h; exact k_billingref07_Number
  · cases h; exact k_codec_Numbers
  · cases h; exact k_billingref07_Numbers
  · cases h; exact k_billingref07_SameInts
  · cases h; exact k_frame_Sum
  · cases h; exact k_billingref08_Sum
  · cases h; exact k_billinglaw08_alive
  · cases h; exact k_frame_All
  · cases h; exact k_billingref08_All
  · cases h; exact k_billingref08_SameAll
  · cases h; exact k_frame_Unwrap
  · cases h; exact k_billingref08_Unwrap
  · cases h; exact k_frame_Wrap
  · cases h; exact k_billinglaw08_few
  · cases h; exact k_billingref08_Wrap
  · cases h; exact k_frame_Join
  · cases h; exact k_billingref08_Join
  · cases h; exact k_codec_Record
  · cases h; exact k_billingref07_Record
  · cases h; exact k_billingref07_PutRecord
  · cases h; exact k_codec_add
  · cases h; exact k_codec_grown
  · cases h; exact k_billingref07_join
  · cases h; exact k_billingref07_Bytes
  · cases h; exact k_codec_truth
  · cases h; exact k_codec_scan
  · cases h; exact k_codec_rest
  · cases h; exact k_codec_length
  · cases h; exact k_billingref07_length
  · cases h; exact k_frame_locate
  · cases h; exact k_frame_copied
  · cases h; exact k_frame_wrap
  · cases h; exact k_codec_source_number
  · cases h; exact k_codec_source_text
  · cases h; exact k_codec_source_flag
  · cases h; exact k_billingref07_reader_number
  · cases h; exact k_billingref07_reader_text
  · cases h; exact k_billingref07_reader_truth
  · cases h; exact k_billingref07_truth
  · cases h; exact k_codec_zigzag
  · cases h; exact k_codec_back
  · cases h
noncomputable def mach : Mach := ⟨ft, fun _ _ _ => none⟩
theorem sound : SoundCall Try.prog (acall mach) := acall_sound mach soundCall_none ft_ok
end Go.Am
