/- The table of the types that the operations name, and that it is the program's own. -/
import Derived.Test.YtaloakmffdejgaaProg
import Derived.Test.YtaloakmffdejgaaFwH
import Derived.KernelRfl
set_option linter.unusedVariables false
namespace Go.Proofs.Ytaloakmffdejgaa
open Go Go.Fw
theorem ok3 : TROk Try.prog 3 ⟨1, 8, false, [], false, .int .i64, .int .i64 0⟩ := ⟨Try.sizeOf3, Try.isAgg3, Try.zeroValue3, info_of (by kernel_rfl), rfl, .inl rfl, Try.underlying3⟩
theorem ok4 : TROk Try.prog 4 ⟨1, 1, false, [], false, .bool, .bool false⟩ := ⟨Try.sizeOf4, Try.isAgg4, Try.zeroValue4, info_of (by kernel_rfl), rfl, .inl rfl, Try.underlying4⟩
theorem ok5 : TROk Try.prog 5 ⟨1, 1, false, [], false, .int .u8, .int .u8 0⟩ := ⟨Try.sizeOf5, Try.isAgg5, Try.zeroValue5, info_of (by kernel_rfl), rfl, .inl rfl, Try.underlying5⟩
theorem ok9 : TROk Try.prog 9 ⟨1, 16, false, [], false, .str, .string ⟨#[]⟩⟩ := ⟨Try.sizeOf9, Try.isAgg9, Try.zeroValue9, info_of (by kernel_rfl), rfl, .inl rfl, Try.underlying9⟩
theorem ok22 : TROk Try.prog 22 ⟨1, 24, false, [], false, .slice 5, .slice none 0 0⟩ := ⟨Try.sizeOf22, Try.isAgg22, Try.zeroValue22, info_of (by kernel_rfl), rfl, .inl rfl, Try.underlying22⟩
theorem ok24 : TROk Try.prog 24 ⟨1, 24, false, [], false, .slice 40, .slice none 0 0⟩ := ⟨Try.sizeOf24, Try.isAgg24, Try.zeroValue24, info_of (by kernel_rfl), rfl, .inl rfl, Try.underlying24⟩
theorem ok31 : TROk Try.prog 31 ⟨4, 32, true, [.int .i64, .int .i64, .int .i64, .int .i64], false, .struct [(0, 1, false), (1, 1, false), (2, 1, false), (3, 1, false)], .agg #[.int .i64 0, .int .i64 0, .int .i64 0, .int .i64 0]⟩ := ⟨Try.sizeOf31, Try.isAgg31, Try.zeroValue31, info_of (by kernel_rfl), rfl, eq_struct (by kernel_rfl) (by kernel_rfl) Try.underlying31 (by exact ⟨by decide, rfl, Try.isAgg3, Try.underlying3, by decide, rfl, Try.isAgg3, Try.underlying3, by decide, rfl, Try.isAgg3, Try.underlying3, by decide, rfl, Try.isAgg3, Try.underlying3, trivial⟩), struct_ok Try.underlying31 (by kernel_rfl) (by exact ⟨rfl, Try.sizeOf3, Try.isAgg3, by decide, rfl, Try.sizeOf3, Try.isAgg3, by decide, rfl, Try.sizeOf3, Try.isAgg3, by decide, rfl, Try.sizeOf3, Try.isAgg3, by decide, trivial⟩)⟩
theorem ok36 : TROk Try.prog 36 ⟨3, 24, true, [.int .i64, .int .i64, .int .i64], false, .struct [(0, 1, false), (1, 1, false), (2, 1, false)], .agg #[.int .i64 0, .int .i64 0, .int .i64 0]⟩ := ⟨Try.sizeOf36, Try.isAgg36, Try.zeroValue36, info_of (by kernel_rfl), rfl, eq_struct (by kernel_rfl) (by kernel_rfl) Try.underlying36 (by exact ⟨by decide, rfl, Try.isAgg3, Try.underlying3, by decide, rfl, Try.isAgg3, Try.underlying3, by decide, rfl, Try.isAgg3, Try.underlying3, trivial⟩), struct_ok Try.underlying36 (by kernel_rfl) (by exact ⟨rfl, Try.sizeOf3, Try.isAgg3, by decide, rfl, Try.sizeOf3, Try.isAgg3, by decide, rfl, Try.sizeOf3, Try.isAgg3, by decide, trivial⟩)⟩
theorem ok38 : TROk Try.prog 38 ⟨1, 24, false, [], false, .slice 3, .slice none 0 0⟩ := ⟨Try.sizeOf38, Try.isAgg38, Try.zeroValue38, info_of (by kernel_rfl), rfl, .inl rfl, Try.underlying38⟩
theorem ok40 : TROk Try.prog 40 ⟨2, 16, true, [.int .i64, .int .i64], false, .struct [(0, 1, false), (1, 1, false)], .agg #[.int .i64 0, .int .i64 0]⟩ := ⟨Try.sizeOf40, Try.isAgg40, Try.zeroValue40, info_of (by kernel_rfl), rfl, eq_struct (by kernel_rfl) (by kernel_rfl) Try.underlying40 (by exact ⟨by decide, rfl, Try.isAgg3, Try.underlying3, by decide, rfl, Try.isAgg3, Try.underlying3, trivial⟩), struct_ok Try.underlying40 (by kernel_rfl) (by exact ⟨rfl, Try.sizeOf3, Try.isAgg3, by decide, rfl, Try.sizeOf3, Try.isAgg3, by decide, trivial⟩)⟩
theorem ok49 : TROk Try.prog 49 ⟨1, 24, false, [], false, .slice 56, .slice none 0 0⟩ := ⟨Try.sizeOf49, Try.isAgg49, Try.zeroValue49, info_of (by kernel_rfl), rfl, .inl rfl, Try.underlying49⟩
theorem ok56 : TROk Try.prog 56 ⟨5, 40, true, [.int .i64, .int .i64, .int .i64, .int .i64, .int .i64], false, .struct [(0, 1, false), (1, 1, false), (2, 1, false), (3, 1, false), (4, 1, false)], .agg #[.int .i64 0, .int .i64 0, .int .i64 0, .int .i64 0, .int .i64 0]⟩ := ⟨Try.sizeOf56, Try.isAgg56, Try.zeroValue56, info_of (by kernel_rfl), rfl, eq_struct (by kernel_rfl) (by kernel_rfl) Try.underlying56 (by exact ⟨by decide, rfl, Try.isAgg3, Try.underlying3, by decide, rfl, Try.isAgg3, Try.underlying3, by decide, rfl, Try.isAgg3, Try.underlying3, by decide, rfl, Try.isAgg3, Try.underlying3, by decide, rfl, Try.isAgg3, Try.underlying3, trivial⟩), struct_ok Try.underlying56 (by kernel_rfl) (by exact ⟨rfl, Try.sizeOf3, Try.isAgg3, by decide, rfl, Try.sizeOf3, Try.isAgg3, by decide, rfl, Try.sizeOf3, Try.isAgg3, by decide, rfl, Try.sizeOf3, Try.isAgg3, by decide, rfl, Try.sizeOf3, Try.isAgg3, by decide, trivial⟩)⟩
theorem ok58 : TROk Try.prog 58 ⟨1, 24, false, [], false, .slice 84, .slice none 0 0⟩ := ⟨Try.sizeOf58, Try.isAgg58, Try.zeroValue58, info_of (by kernel_rfl), rfl, .inl rfl, Try.underlying58⟩
theorem ok61 : TROk Try.prog 61 ⟨1, 24, false, [], false, .slice 24, .slice none 0 0⟩ := ⟨Try.sizeOf61, Try.isAgg61, Try.zeroValue61, info_of (by kernel_rfl), rfl, .inl rfl, Try.underlying61⟩
theorem ok69 : TROk Try.prog 69 ⟨1, 24, false, [], false, .slice 161, .slice none 0 0⟩ := ⟨Try.sizeOf69, Try.isAgg69, Try.zeroValue69, info_of (by kernel_rfl), rfl, .inl rfl, Try.underlying69⟩
theorem ok84 : TROk Try.prog 84 ⟨2, 16, true, [.int .i64, .int .i64], false, .struct [(0, 1, false), (1, 1, false)], .agg #[.int .i64 0, .int .i64 0]⟩ := ⟨Try.sizeOf84, Try.isAgg84, Try.zeroValue84, info_of (by kernel_rfl), rfl, eq_struct (by kernel_rfl) (by kernel_rfl) Try.underlying84 (by exact ⟨by decide, rfl, Try.isAgg3, Try.underlying3, by decide, rfl, Try.isAgg3, Try.underlying3, trivial⟩), struct_ok Try.underlying84 (by kernel_rfl) (by exact ⟨rfl, Try.sizeOf3, Try.isAgg3, by decide, rfl, Try.sizeOf3, Try.isAgg3, by decide, trivial⟩)⟩
theorem ok86 : TROk Try.prog 86 ⟨1, 8, false, [], false, .ptr 88, .pointer none⟩ := ⟨Try.sizeOf86, Try.isAgg86, Try.zeroValue86, info_of (by kernel_rfl), rfl, .inl rfl, Try.underlying86⟩
theorem ok88 : TROk Try.prog 88 ⟨3, 56, true, [], false, .struct [(0, 1, false), (1, 1, false), (2, 1, false)], .agg #[.slice none 0 0, .slice none 0 0, .int .i64 0]⟩ := ⟨Try.sizeOf88, Try.isAgg88, Try.zeroValue88, info_of (by kernel_rfl), rfl, .inl rfl, struct_ok Try.underlying88 (by kernel_rfl) (by exact ⟨rfl, Try.sizeOf38, Try.isAgg38, by decide, rfl, Try.sizeOf38, Try.isAgg38, by decide, rfl, Try.sizeOf3, Try.isAgg3, by decide, trivial⟩)⟩
theorem ok100 : TROk Try.prog 100 ⟨1, 8, false, [], false, .other, .nilFunc⟩ := ⟨Try.sizeOf100, Try.isAgg100, Try.zeroValue100, info_of (by kernel_rfl), rfl, .inl rfl, by simp [KOk, Try.underlying100]⟩
theorem ok105 : TROk Try.prog 105 ⟨1, 8, false, [], false, .int .u64, .int .u64 0⟩ := ⟨Try.sizeOf105, Try.isAgg105, Try.zeroValue105, info_of (by kernel_rfl), rfl, .inl rfl, Try.underlying105⟩
theorem ok107 : TROk Try.prog 107 ⟨3, 40, true, [], false, .struct [(0, 1, false), (1, 1, false), (2, 1, false)], .agg #[.slice none 0 0, .int .i64 0, .int .u64 0]⟩ := ⟨Try.sizeOf107, Try.isAgg107, Try.zeroValue107, info_of (by kernel_rfl), rfl, .inl rfl, struct_ok Try.underlying107 (by kernel_rfl) (by exact ⟨rfl, Try.sizeOf22, Try.isAgg22, by decide, rfl, Try.sizeOf3, Try.isAgg3, by decide, rfl, Try.sizeOf105, Try.isAgg105, by decide, trivial⟩)⟩
theorem ok121 : TROk Try.prog 121 ⟨1, 24, false, [], false, .slice 61, .slice none 0 0⟩ := ⟨Try.sizeOf121, Try.isAgg121, Try.zeroValue121, info_of (by kernel_rfl), rfl, .inl rfl, Try.underlying121⟩
theorem ok129 : TROk Try.prog 129 ⟨1, 24, false, [], false, .slice 38, .slice none 0 0⟩ := ⟨Try.sizeOf129, Try.isAgg129, Try.zeroValue129, info_of (by kernel_rfl), rfl, .inl rfl, Try.underlying129⟩
theorem ok138 : TROk Try.prog 138 ⟨1, 8, false, [], false, .other, .nilFunc⟩ := ⟨Try.sizeOf138, Try.isAgg138, Try.zeroValue138, info_of (by kernel_rfl), rfl, .inl rfl, by simp [KOk, Try.underlying138]⟩
theorem ok146 : TROk Try.prog 146 ⟨1, 24, false, [], false, .slice 49, .slice none 0 0⟩ := ⟨Try.sizeOf146, Try.isAgg146, Try.zeroValue146, info_of (by kernel_rfl), rfl, .inl rfl, Try.underlying146⟩
theorem ok153 : TROk Try.prog 153 ⟨1, 24, false, [], false, .slice 4, .slice none 0 0⟩ := ⟨Try.sizeOf153, Try.isAgg153, Try.zeroValue153, info_of (by kernel_rfl), rfl, .inl rfl, Try.underlying153⟩
theorem ok155 : TROk Try.prog 155 ⟨4, 80, true, [], false, .struct [(0, 1, false), (1, 1, false), (2, 1, false), (3, 1, false)], .agg #[.slice none 0 0, .slice none 0 0, .slice none 0 0, .int .i64 0]⟩ := ⟨Try.sizeOf155, Try.isAgg155, Try.zeroValue155, info_of (by kernel_rfl), rfl, .inl rfl, struct_ok Try.underlying155 (by kernel_rfl) (by exact ⟨rfl, Try.sizeOf38, Try.isAgg38, by decide, rfl, Try.sizeOf153, Try.isAgg153, by decide, rfl, Try.sizeOf38, Try.isAgg38, by decide, rfl, Try.sizeOf3, Try.isAgg3, by decide, trivial⟩)⟩
theorem ok161 : TROk Try.prog 161 ⟨5, 56, true, [], false, .struct [(0, 1, false), (1, 1, false), (2, 1, false), (3, 1, false), (4, 1, false)], .agg #[.int .i64 0, .int .i64 0, .int .i64 0, .int .i64 0, .slice none 0 0]⟩ := ⟨Try.sizeOf161, Try.isAgg161, Try.zeroValue161, info_of (by kernel_rfl), rfl, .inl rfl, struct_ok Try.underlying161 (by kernel_rfl) (by exact ⟨rfl, Try.sizeOf3, Try.isAgg3, by decide, rfl, Try.sizeOf3, Try.isAgg3, by decide, rfl, Try.sizeOf3, Try.isAgg3, by decide, rfl, Try.sizeOf3, Try.isAgg3, by decide, rfl, Try.sizeOf38, Try.isAgg38, by decide, trivial⟩)⟩
theorem ok170 : TROk Try.prog 170 ⟨1, 8, false, [], false, .int .u64, .int .u64 0⟩ := ⟨Try.sizeOf170, Try.isAgg170, Try.zeroValue170, info_of (by kernel_rfl), rfl, .inl rfl, Try.underlying170⟩
theorem ok185 : TROk Try.prog 185 ⟨1, 8, false, [], false, .int .i64, .int .i64 0⟩ := ⟨Try.sizeOf185, Try.isAgg185, Try.zeroValue185, info_of (by kernel_rfl), rfl, .inl rfl, Try.underlying185⟩
theorem ok192 : TROk Try.prog 192 ⟨1, 4, false, [], false, .int .u32, .int .u32 0⟩ := ⟨Try.sizeOf192, Try.isAgg192, Try.zeroValue192, info_of (by kernel_rfl), rfl, .inl rfl, Try.underlying192⟩
theorem ok196 : TROk Try.prog 196 ⟨1, 8, false, [], false, .int .u64, .int .u64 0⟩ := ⟨Try.sizeOf196, Try.isAgg196, Try.zeroValue196, info_of (by kernel_rfl), rfl, .inl rfl, Try.underlying196⟩
def T : Tab := fun t => match t with
  | 3 => some ⟨1, 8, false, [], false, .int .i64, .int .i64 0⟩
  | 4 => some ⟨1, 1, false, [], false, .bool, .bool false⟩
  | 5 => some ⟨1, 1, false, [], false, .int .u8, .int .u8 0⟩
  | 9 => some ⟨1, 16, false, [], false, .str, .string ⟨#[]⟩⟩
  | 22 => some ⟨1, 24, false, [], false, .slice 5, .slice none 0 0⟩
  | 24 => some ⟨1, 24, false, [], false, .slice 40, .slice none 0 0⟩
  | 31 => some ⟨4, 32, true, [.int .i64, .int .i64, .int .i64, .int .i64], false, .struct [(0, 1, false), (1, 1, false), (2, 1, false), (3, 1, false)], .agg #[.int .i64 0, .int .i64 0, .int .i64 0, .int .i64 0]⟩
  | 36 => some ⟨3, 24, true, [.int .i64, .int .i64, .int .i64], false, .struct [(0, 1, false), (1, 1, false), (2, 1, false)], .agg #[.int .i64 0, .int .i64 0, .int .i64 0]⟩
  | 38 => some ⟨1, 24, false, [], false, .slice 3, .slice none 0 0⟩
  | 40 => some ⟨2, 16, true, [.int .i64, .int .i64], false, .struct [(0, 1, false), (1, 1, false)], .agg #[.int .i64 0, .int .i64 0]⟩
  | 49 => some ⟨1, 24, false, [], false, .slice 56, .slice none 0 0⟩
  | 56 => some ⟨5, 40, true, [.int .i64, .int .i64, .int .i64, .int .i64, .int .i64], false, .struct [(0, 1, false), (1, 1, false), (2, 1, false), (3, 1, false), (4, 1, false)], .agg #[.int .i64 0, .int .i64 0, .int .i64 0, .int .i64 0, .int .i64 0]⟩
  | 58 => some ⟨1, 24, false, [], false, .slice 84, .slice none 0 0⟩
  | 61 => some ⟨1, 24, false, [], false, .slice 24, .slice none 0 0⟩
  | 69 => some ⟨1, 24, false, [], false, .slice 161, .slice none 0 0⟩
  | 84 => some ⟨2, 16, true, [.int .i64, .int .i64], false, .struct [(0, 1, false), (1, 1, false)], .agg #[.int .i64 0, .int .i64 0]⟩
  | 86 => some ⟨1, 8, false, [], false, .ptr 88, .pointer none⟩
  | 88 => some ⟨3, 56, true, [], false, .struct [(0, 1, false), (1, 1, false), (2, 1, false)], .agg #[.slice none 0 0, .slice none 0 0, .int .i64 0]⟩
  | 100 => some ⟨1, 8, false, [], false, .other, .nilFunc⟩
  | 105 => some ⟨1, 8, false, [], false, .int .u64, .int .u64 0⟩
  | 107 => some ⟨3, 40, true, [], false, .struct [(0, 1, false), (1, 1, false), (2, 1, false)], .agg #[.slice none 0 0, .int .i64 0, .int .u64 0]⟩
  | 121 => some ⟨1, 24, false, [], false, .slice 61, .slice none 0 0⟩
  | 129 => some ⟨1, 24, false, [], false, .slice 38, .slice none 0 0⟩
  | 138 => some ⟨1, 8, false, [], false, .other, .nilFunc⟩
  | 146 => some ⟨1, 24, false, [], false, .slice 49, .slice none 0 0⟩
  | 153 => some ⟨1, 24, false, [], false, .slice 4, .slice none 0 0⟩
  | 155 => some ⟨4, 80, true, [], false, .struct [(0, 1, false), (1, 1, false), (2, 1, false), (3, 1, false)], .agg #[.slice none 0 0, .slice none 0 0, .slice none 0 0, .int .i64 0]⟩
  | 161 => some ⟨5, 56, true, [], false, .struct [(0, 1, false), (1, 1, false), (2, 1, false), (3, 1, false), (4, 1, false)], .agg #[.int .i64 0, .int .i64 0, .int .i64 0, .int .i64 0, .slice none 0 0]⟩
  | 170 => some ⟨1, 8, false, [], false, .int .u64, .int .u64 0⟩
  | 185 => some ⟨1, 8, false, [], false, .int .i64, .int .i64 0⟩
  | 192 => some ⟨1, 4, false, [], false, .int .u32, .int .u32 0⟩
  | 196 => some ⟨1, 8, false, [], false, .int .u64, .int .u64 0⟩
  | _ => none
@[go_sem] theorem T3 : T 3 = some ⟨1, 8, false, [], false, .int .i64, .int .i64 0⟩ := rfl
@[go_sem] theorem T4 : T 4 = some ⟨1, 1, false, [], false, .bool, .bool false⟩ := rfl
@[go_sem] theorem T5 : T 5 = some ⟨1, 1, false, [], false, .int .u8, .int .u8 0⟩ := rfl
@[go_sem] theorem T9 : T 9 = some ⟨1, 16, false, [], false, .str, .string ⟨#[]⟩⟩ := rfl
@[go_sem] theorem T22 : T 22 = some ⟨1, 24, false, [], false, .slice 5, .slice none 0 0⟩ := rfl
@[go_sem] theorem T24 : T 24 = some ⟨1, 24, false, [], false, .slice 40, .slice none 0 0⟩ := rfl
@[go_sem] theorem T31 : T 31 = some ⟨4, 32, true, [.int .i64, .int .i64, .int .i64, .int .i64], false, .struct [(0, 1, false), (1, 1, false), (2, 1, false), (3, 1, false)], .agg #[.int .i64 0, .int .i64 0, .int .i64 0, .int .i64 0]⟩ := rfl
@[go_sem] theorem T36 : T 36 = some ⟨3, 24, true, [.int .i64, .int .i64, .int .i64], false, .struct [(0, 1, false), (1, 1, false), (2, 1, false)], .agg #[.int .i64 0, .int .i64 0, .int .i64 0]⟩ := rfl
@[go_sem] theorem T38 : T 38 = some ⟨1, 24, false, [], false, .slice 3, .slice none 0 0⟩ := rfl
@[go_sem] theorem T40 : T 40 = some ⟨2, 16, true, [.int .i64, .int .i64], false, .struct [(0, 1, false), (1, 1, false)], .agg #[.int .i64 0, .int .i64 0]⟩ := rfl
@[go_sem] theorem T49 : T 49 = some ⟨1, 24, false, [], false, .slice 56, .slice none 0 0⟩ := rfl
@[go_sem] theorem T56 : T 56 = some ⟨5, 40, true, [.int .i64, .int .i64, .int .i64, .int .i64, .int .i64], false, .struct [(0, 1, false), (1, 1, false), (2, 1, false), (3, 1, false), (4, 1, false)], .agg #[.int .i64 0, .int .i64 0, .int .i64 0, .int .i64 0, .int .i64 0]⟩ := rfl
@[go_sem] theorem T58 : T 58 = some ⟨1, 24, false, [], false, .slice 84, .slice none 0 0⟩ := rfl
@[go_sem] theorem T61 : T 61 = some ⟨1, 24, false, [], false, .slice 24, .slice none 0 0⟩ := rfl
@[go_sem] theorem T69 : T 69 = some ⟨1, 24, false, [], false, .slice 161, .slice none 0 0⟩ := rfl
@[go_sem] theorem T84 : T 84 = some ⟨2, 16, true, [.int .i64, .int .i64], false, .struct [(0, 1, false), (1, 1, false)], .agg #[.int .i64 0, .int .i64 0]⟩ := rfl
@[go_sem] theorem T86 : T 86 = some ⟨1, 8, false, [], false, .ptr 88, .pointer none⟩ := rfl
@[go_sem] theorem T88 : T 88 = some ⟨3, 56, true, [], false, .struct [(0, 1, false), (1, 1, false), (2, 1, false)], .agg #[.slice none 0 0, .slice none 0 0, .int .i64 0]⟩ := rfl
@[go_sem] theorem T100 : T 100 = some ⟨1, 8, false, [], false, .other, .nilFunc⟩ := rfl
@[go_sem] theorem T105 : T 105 = some ⟨1, 8, false, [], false, .int .u64, .int .u64 0⟩ := rfl
@[go_sem] theorem T107 : T 107 = some ⟨3, 40, true, [], false, .struct [(0, 1, false), (1, 1, false), (2, 1, false)], .agg #[.slice none 0 0, .int .i64 0, .int .u64 0]⟩ := rfl
@[go_sem] theorem T121 : T 121 = some ⟨1, 24, false, [], false, .slice 61, .slice none 0 0⟩ := rfl
@[go_sem] theorem T129 : T 129 = some ⟨1, 24, false, [], false, .slice 38, .slice none 0 0⟩ := rfl
@[go_sem] theorem T138 : T 138 = some ⟨1, 8, false, [], false, .other, .nilFunc⟩ := rfl
@[go_sem] theorem T146 : T 146 = some ⟨1, 24, false, [], false, .slice 49, .slice none 0 0⟩ := rfl
@[go_sem] theorem T153 : T 153 = some ⟨1, 24, false, [], false, .slice 4, .slice none 0 0⟩ := rfl
@[go_sem] theorem T155 : T 155 = some ⟨4, 80, true, [], false, .struct [(0, 1, false), (1, 1, false), (2, 1, false), (3, 1, false)], .agg #[.slice none 0 0, .slice none 0 0, .slice none 0 0, .int .i64 0]⟩ := rfl
@[go_sem] theorem T161 : T 161 = some ⟨5, 56, true, [], false, .struct [(0, 1, false), (1, 1, false), (2, 1, false), (3, 1, false), (4, 1, false)], .agg #[.int .i64 0, .int .i64 0, .int .i64 0, .int .i64 0, .slice none 0 0]⟩ := rfl
@[go_sem] theorem T170 : T 170 = some ⟨1, 8, false, [], false, .int .u64, .int .u64 0⟩ := rfl
@[go_sem] theorem T185 : T 185 = some ⟨1, 8, false, [], false, .int .i64, .int .i64 0⟩ := rfl
@[go_sem] theorem T192 : T 192 = some ⟨1, 4, false, [], false, .int .u32, .int .u32 0⟩ := rfl
@[go_sem] theorem T196 : T 196 = some ⟨1, 8, false, [], false, .int .u64, .int .u64 0⟩ := rfl
theorem tok : TOk Try.prog T := by
  intro t r h
  unfold T at h
  split at h
  · injection h with h; subst h; exact ok3
  · injection h with h; subst h; exact ok4
  · injection h with h; subst h; exact ok5
  · injection h with h; subst h; exact ok9
  · injection h with h; subst h; exact ok22
  · injection h with h; subst h; exact ok24
  · injection h with h; subst h; exact ok31
  · injection h with h; subst h; exact ok36
  · injection h with h; subst h; exact ok38
  · injection h with h; subst h; exact ok40
  · injection h with h; subst h; exact ok49
  · injection h with h; subst h; exact ok56
  · injection h with h; subst h; exact ok58
  · injection h with h; subst h; exact ok61
  · injection h with h; subst h; exact ok69
  · injection h with h; subst h; exact ok84
  · injection h with h; subst h; exact ok86
  · injection h with h; subst h; exact ok88
  · injection h with h; subst h; exact ok100
  · injection h with h; subst h; exact ok105
  · injection h with h; subst h; exact ok107
  · injection h with h; subst h; exact ok121
  · injection h with h; subst h; exact ok129
  · injection h with h; subst h; exact ok138
  · injection h with h; subst h; exact ok146
  · injection h with h; subst h; exact ok153
  · injection h with h; subst h; exact ok155
  · injection h with h; subst h; exact ok161
  · injection h with h; subst h; exact ok170
  · injection h with h; subst h; exact ok185
  · injection h with h; subst h; exact ok192
  · injection h with h; subst h; exact ok196
  · cases h
def TI : Tab := flagged T
theorem tokI : TOk Try.prog TI := tok.flagged
@[go_sem] theorem TI3 : TI 3 = some ⟨1, 8, false, [], true, .int .i64, .int .i64 0⟩ := rfl
@[go_sem] theorem TI4 : TI 4 = some ⟨1, 1, false, [], true, .bool, .bool false⟩ := rfl
@[go_sem] theorem TI5 : TI 5 = some ⟨1, 1, false, [], true, .int .u8, .int .u8 0⟩ := rfl
@[go_sem] theorem TI9 : TI 9 = some ⟨1, 16, false, [], true, .str, .string ⟨#[]⟩⟩ := rfl
@[go_sem] theorem TI22 : TI 22 = some ⟨1, 24, false, [], true, .slice 5, .slice none 0 0⟩ := rfl
@[go_sem] theorem TI24 : TI 24 = some ⟨1, 24, false, [], true, .slice 40, .slice none 0 0⟩ := rfl
@[go_sem] theorem TI31 : TI 31 = some ⟨4, 32, true, [.int .i64, .int .i64, .int .i64, .int .i64], true, .struct [(0, 1, false), (1, 1, false), (2, 1, false), (3, 1, false)], .agg #[.int .i64 0, .int .i64 0, .int .i64 0, .int .i64 0]⟩ := rfl
@[go_sem] theorem TI36 : TI 36 = some ⟨3, 24, true, [.int .i64, .int .i64, .int .i64], true, .struct [(0, 1, false), (1, 1, false), (2, 1, false)], .agg #[.int .i64 0, .int .i64 0, .int .i64 0]⟩ := rfl
@[go_sem] theorem TI38 : TI 38 = some ⟨1, 24, false, [], true, .slice 3, .slice none 0 0⟩ := rfl
@[go_sem] theorem TI40 : TI 40 = some ⟨2, 16, true, [.int .i64, .int .i64], true, .struct [(0, 1, false), (1, 1, false)], .agg #[.int .i64 0, .int .i64 0]⟩ := rfl
@[go_sem] theorem TI49 : TI 49 = some ⟨1, 24, false, [], true, .slice 56, .slice none 0 0⟩ := rfl
@[go_sem] theorem TI56 : TI 56 = some ⟨5, 40, true, [.int .i64, .int .i64, .int .i64, .int .i64, .int .i64], true, .struct [(0, 1, false), (1, 1, false), (2, 1, false), (3, 1, false), (4, 1, false)], .agg #[.int .i64 0, .int .i64 0, .int .i64 0, .int .i64 0, .int .i64 0]⟩ := rfl
@[go_sem] theorem TI58 : TI 58 = some ⟨1, 24, false, [], true, .slice 84, .slice none 0 0⟩ := rfl
@[go_sem] theorem TI61 : TI 61 = some ⟨1, 24, false, [], true, .slice 24, .slice none 0 0⟩ := rfl
@[go_sem] theorem TI69 : TI 69 = some ⟨1, 24, false, [], true, .slice 161, .slice none 0 0⟩ := rfl
@[go_sem] theorem TI84 : TI 84 = some ⟨2, 16, true, [.int .i64, .int .i64], true, .struct [(0, 1, false), (1, 1, false)], .agg #[.int .i64 0, .int .i64 0]⟩ := rfl
@[go_sem] theorem TI86 : TI 86 = some ⟨1, 8, false, [], true, .ptr 88, .pointer none⟩ := rfl
@[go_sem] theorem TI88 : TI 88 = some ⟨3, 56, true, [], true, .struct [(0, 1, false), (1, 1, false), (2, 1, false)], .agg #[.slice none 0 0, .slice none 0 0, .int .i64 0]⟩ := rfl
@[go_sem] theorem TI100 : TI 100 = some ⟨1, 8, false, [], true, .other, .nilFunc⟩ := rfl
@[go_sem] theorem TI105 : TI 105 = some ⟨1, 8, false, [], true, .int .u64, .int .u64 0⟩ := rfl
@[go_sem] theorem TI107 : TI 107 = some ⟨3, 40, true, [], true, .struct [(0, 1, false), (1, 1, false), (2, 1, false)], .agg #[.slice none 0 0, .int .i64 0, .int .u64 0]⟩ := rfl
@[go_sem] theorem TI121 : TI 121 = some ⟨1, 24, false, [], true, .slice 61, .slice none 0 0⟩ := rfl
@[go_sem] theorem TI129 : TI 129 = some ⟨1, 24, false, [], true, .slice 38, .slice none 0 0⟩ := rfl
@[go_sem] theorem TI138 : TI 138 = some ⟨1, 8, false, [], true, .other, .nilFunc⟩ := rfl
@[go_sem] theorem TI146 : TI 146 = some ⟨1, 24, false, [], true, .slice 49, .slice none 0 0⟩ := rfl
@[go_sem] theorem TI153 : TI 153 = some ⟨1, 24, false, [], true, .slice 4, .slice none 0 0⟩ := rfl
@[go_sem] theorem TI155 : TI 155 = some ⟨4, 80, true, [], true, .struct [(0, 1, false), (1, 1, false), (2, 1, false), (3, 1, false)], .agg #[.slice none 0 0, .slice none 0 0, .slice none 0 0, .int .i64 0]⟩ := rfl
@[go_sem] theorem TI161 : TI 161 = some ⟨5, 56, true, [], true, .struct [(0, 1, false), (1, 1, false), (2, 1, false), (3, 1, false), (4, 1, false)], .agg #[.int .i64 0, .int .i64 0, .int .i64 0, .int .i64 0, .slice none 0 0]⟩ := rfl
@[go_sem] theorem TI170 : TI 170 = some ⟨1, 8, false, [], true, .int .u64, .int .u64 0⟩ := rfl
@[go_sem] theorem TI185 : TI 185 = some ⟨1, 8, false, [], true, .int .i64, .int .i64 0⟩ := rfl
@[go_sem] theorem TI192 : TI 192 = some ⟨1, 4, false, [], true, .int .u32, .int .u32 0⟩ := rfl
@[go_sem] theorem TI196 : TI 196 = some ⟨1, 8, false, [], true, .int .u64, .int .u64 0⟩ := rfl
end Go.Proofs.Ytaloakmffdejgaa
