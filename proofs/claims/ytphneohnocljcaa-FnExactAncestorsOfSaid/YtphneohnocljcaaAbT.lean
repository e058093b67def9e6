/- The types of this seat, as the generator asks for them. Printed by types.py. -/
import Derived.Test.YtphneohnocljcaaProg
import Derived.Test.YtphneohnocljcaaAbS
import Derived.KernelRfl
namespace Go.Proofs.Ytphneohnocljcaa
open Go Go.Ab
set_option linter.unusedVariables false
set_option linter.unusedSimpArgs false
theorem exists_of_isSome {α : Type} {o : Option α} (h : o.isSome = true) : ∃ z, o = some z := Option.isSome_iff_exists.1 h
theorem tiok_of {P : Program} {t : Nat} {i : TI} {z : Value} (hs : (P.info? t).map (·.size) = some i.sz) (hb : (P.info? t).map (·.bytes) = some i.bytes)
    (hz : (P.info? t).bind (·.zero) = some z) (h1 : ZsOk z.cells.toList i.zero) (h2 : z.cells.size = i.sz) (h3 : i.sz ≠ 0)
    (h4 : i.ag = false → ∃ x, z.cells = #[x] ∧ x = z) (h5 : i.ag = true → ∃ cs, z = .agg cs) (h6 : KOk P t i.sz i.k) : TIOk P t i := by
  cases e : P.info? t with
  | none => rw [e] at hs; cases hs
  | some f =>
    rw [e] at hs hb hz
    simp only [Option.map_some, Option.some.injEq, Option.bind_some] at hs hb hz
    exact ⟨f, z, e, hs, hb, hz, h1, h2, h3, h4, h5, h6⟩
def ty : Ty
  | 2 => some ⟨.one, 1, 8, [.d (.v (.int .i64 0))]⟩
  | 3 => some ⟨.one, 1, 8, [.d (.v (.int .i64 0))]⟩
  | 4 => some ⟨.boo, 1, 1, [.d (.v (.bool false))]⟩
  | 5 => some ⟨.one, 1, 1, [.d (.v (.int .u8 0))]⟩
  | 6 => some ⟨.one, 1, 1, [.d (.v (.int .u8 0))]⟩
  | 7 => some ⟨.st [⟨0, 1, false⟩, ⟨1, 1, false⟩, ⟨2, 1, false⟩, ⟨3, 1, false⟩], 4, 24, [.d (.v (.int .i64 0)), .d (.v (.int .i64 0)), .d (.v (.bool false)), .d (.v (.int .u8 0))]⟩
  | 8 => some ⟨.st [⟨0, 1, false⟩, ⟨1, 1, false⟩, ⟨2, 1, false⟩, ⟨3, 1, false⟩], 4, 24, [.d (.v (.int .i64 0)), .d (.v (.int .i64 0)), .d (.v (.bool false)), .d (.v (.int .u8 0))]⟩
  | 9 => some ⟨.str, 1, 16, [.d (.v (.string ⟨#[]⟩))]⟩
  | 10 => some ⟨.str, 1, 16, [.d (.v (.string ⟨#[]⟩))]⟩
  | 11 => some ⟨.str, 1, 16, [.d (.v (.string ⟨#[]⟩))]⟩
  | 12 => some ⟨.one, 1, 8, [.d (.v (.int .u64 0))]⟩
  | 13 => some ⟨.st [⟨0, 1, false⟩, ⟨1, 1, false⟩], 2, 24, [.d (.v (.string ⟨#[]⟩)), .d (.v (.int .u64 0))]⟩
  | 14 => some ⟨.st [⟨0, 1, false⟩, ⟨1, 1, false⟩], 2, 24, [.d (.v (.string ⟨#[]⟩)), .d (.v (.int .u64 0))]⟩
  | 18 => some ⟨.st [⟨0, 1, false⟩], 1, 8, [.d (.v (.pointer none))]⟩
  | 19 => some ⟨.st [⟨0, 1, false⟩], 1, 8, [.d (.v (.pointer none))]⟩
  | 21 => some ⟨.one, 1, 4, [.d (.v (.int .i32 0))]⟩
  | 22 => some ⟨.slc 24, 1, 24, [.nil]⟩
  | 23 => some ⟨.st [⟨0, 1, false⟩, ⟨1, 1, false⟩, ⟨2, 1, false⟩], 3, 48, [.d (.v (.int .i64 0)), .d (.v (.string ⟨#[]⟩)), .nil]⟩
  | 24 => some ⟨.st [⟨0, 1, false⟩, ⟨1, 1, false⟩, ⟨2, 1, false⟩], 3, 48, [.d (.v (.int .i64 0)), .d (.v (.string ⟨#[]⟩)), .nil]⟩
  | 26 => some ⟨.slc 9, 1, 24, [.nil]⟩
  | 28 => some ⟨.slc 30, 1, 24, [.nil]⟩
  | 29 => some ⟨.st [⟨0, 1, false⟩, ⟨1, 1, false⟩, ⟨2, 1, false⟩], 3, 48, [.d (.v (.int .i64 0)), .d (.v (.string ⟨#[]⟩)), .nil]⟩
  | 30 => some ⟨.st [⟨0, 1, false⟩, ⟨1, 1, false⟩, ⟨2, 1, false⟩], 3, 48, [.d (.v (.int .i64 0)), .d (.v (.string ⟨#[]⟩)), .nil]⟩
  | 37 => some ⟨.slc 52, 1, 24, [.nil]⟩
  | 38 => some ⟨.st [⟨0, 1, false⟩], 1, 24, [.nil]⟩
  | 39 => some ⟨.st [⟨0, 1, false⟩], 1, 24, [.nil]⟩
  | 42 => some ⟨.slc 56, 1, 24, [.nil]⟩
  | 43 => some ⟨.st [⟨0, 1, false⟩], 1, 24, [.nil]⟩
  | 44 => some ⟨.st [⟨0, 1, false⟩], 1, 24, [.nil]⟩
  | 51 => some ⟨.st [⟨0, 1, false⟩, ⟨1, 1, false⟩, ⟨2, 1, false⟩, ⟨3, 1, false⟩, ⟨4, 3, true⟩], 7, 128, [.d (.v (.string ⟨#[]⟩)), .d (.v (.string ⟨#[]⟩)), .nil, .nil, .d (.v (.int .i64 0)), .d (.v (.string ⟨#[]⟩)), .nil]⟩
  | 52 => some ⟨.st [⟨0, 1, false⟩, ⟨1, 1, false⟩, ⟨2, 1, false⟩, ⟨3, 1, false⟩, ⟨4, 3, true⟩], 7, 128, [.d (.v (.string ⟨#[]⟩)), .d (.v (.string ⟨#[]⟩)), .nil, .nil, .d (.v (.int .i64 0)), .d (.v (.string ⟨#[]⟩)), .nil]⟩
  | 55 => some ⟨.st [⟨0, 1, false⟩, ⟨1, 1, false⟩, ⟨2, 1, false⟩, ⟨3, 1, false⟩, ⟨4, 3, true⟩], 7, 128, [.d (.v (.string ⟨#[]⟩)), .d (.v (.string ⟨#[]⟩)), .nil, .nil, .d (.v (.int .i64 0)), .d (.v (.string ⟨#[]⟩)), .nil]⟩
  | 56 => some ⟨.st [⟨0, 1, false⟩, ⟨1, 1, false⟩, ⟨2, 1, false⟩, ⟨3, 1, false⟩, ⟨4, 3, true⟩], 7, 128, [.d (.v (.string ⟨#[]⟩)), .d (.v (.string ⟨#[]⟩)), .nil, .nil, .d (.v (.int .i64 0)), .d (.v (.string ⟨#[]⟩)), .nil]⟩
  | 61 => some ⟨.slc 3, 1, 24, [.nil]⟩
  | 62 => some ⟨.slc 61, 1, 24, [.nil]⟩
  | 63 => some ⟨.st [⟨0, 1, false⟩, ⟨1, 1, false⟩, ⟨2, 1, false⟩, ⟨3, 1, false⟩, ⟨4, 1, false⟩, ⟨5, 1, false⟩, ⟨6, 1, false⟩], 7, 152, [.nil, .nil, .nil, .nil, .nil, .nil, .d (.v (.int .i64 0))]⟩
  | 64 => some ⟨.st [⟨0, 1, false⟩, ⟨1, 1, false⟩, ⟨2, 1, false⟩, ⟨3, 1, false⟩, ⟨4, 1, false⟩, ⟨5, 1, false⟩, ⟨6, 1, false⟩], 7, 152, [.nil, .nil, .nil, .nil, .nil, .nil, .d (.v (.int .i64 0))]⟩
  | 67 => some ⟨.st [⟨0, 1, false⟩, ⟨1, 1, false⟩, ⟨2, 1, false⟩, ⟨3, 1, false⟩, ⟨4, 1, false⟩, ⟨5, 1, false⟩, ⟨6, 1, false⟩], 7, 152, [.nil, .nil, .nil, .nil, .nil, .nil, .d (.v (.int .i64 0))]⟩
  | 75 => some ⟨.slc 131, 1, 24, [.nil]⟩
  | 76 => some ⟨.st [⟨0, 1, false⟩], 1, 24, [.nil]⟩
  | 77 => some ⟨.st [⟨0, 1, false⟩], 1, 24, [.nil]⟩
  | 80 => some ⟨.slc 114, 1, 24, [.nil]⟩
  | 81 => some ⟨.st [⟨0, 1, false⟩], 1, 24, [.nil]⟩
  | 82 => some ⟨.st [⟨0, 1, false⟩], 1, 24, [.nil]⟩
  | 112 => some ⟨.slc 141, 1, 24, [.nil]⟩
  | 113 => some ⟨.st [⟨0, 1, false⟩, ⟨1, 3, true⟩, ⟨4, 1, false⟩, ⟨5, 1, false⟩, ⟨6, 1, false⟩, ⟨7, 1, false⟩, ⟨8, 1, false⟩, ⟨9, 1, false⟩, ⟨10, 1, false⟩], 11, 176, [.d (.v (.int .i64 0)), .d (.v (.int .i64 0)), .d (.v (.string ⟨#[]⟩)), .nil, .d (.v (.int .i64 0)), .nil, .d (.v (.string ⟨#[]⟩)), .d (.v (.string ⟨#[]⟩)), .nil, .nil, .d (.v (.int .i64 0))]⟩
  | 114 => some ⟨.st [⟨0, 1, false⟩, ⟨1, 3, true⟩, ⟨4, 1, false⟩, ⟨5, 1, false⟩, ⟨6, 1, false⟩, ⟨7, 1, false⟩, ⟨8, 1, false⟩, ⟨9, 1, false⟩, ⟨10, 1, false⟩], 11, 176, [.d (.v (.int .i64 0)), .d (.v (.int .i64 0)), .d (.v (.string ⟨#[]⟩)), .nil, .d (.v (.int .i64 0)), .nil, .d (.v (.string ⟨#[]⟩)), .d (.v (.string ⟨#[]⟩)), .nil, .nil, .d (.v (.int .i64 0))]⟩
  | 122 => some ⟨.slc 5, 1, 24, [.nil]⟩
  | 124 => some ⟨.slc 26, 1, 24, [.nil]⟩
  | 129 => some ⟨.slc 144, 1, 24, [.nil]⟩
  | 130 => some ⟨.st [⟨0, 1, false⟩, ⟨1, 3, true⟩, ⟨4, 1, false⟩, ⟨5, 1, false⟩, ⟨6, 1, false⟩, ⟨7, 1, false⟩, ⟨8, 1, false⟩, ⟨9, 1, false⟩, ⟨10, 1, false⟩], 11, 176, [.d (.v (.int .i64 0)), .d (.v (.int .i64 0)), .d (.v (.string ⟨#[]⟩)), .nil, .d (.v (.int .i64 0)), .nil, .d (.v (.string ⟨#[]⟩)), .d (.v (.string ⟨#[]⟩)), .nil, .nil, .d (.v (.int .i64 0))]⟩
  | 131 => some ⟨.st [⟨0, 1, false⟩, ⟨1, 3, true⟩, ⟨4, 1, false⟩, ⟨5, 1, false⟩, ⟨6, 1, false⟩, ⟨7, 1, false⟩, ⟨8, 1, false⟩, ⟨9, 1, false⟩, ⟨10, 1, false⟩], 11, 176, [.d (.v (.int .i64 0)), .d (.v (.int .i64 0)), .d (.v (.string ⟨#[]⟩)), .nil, .d (.v (.int .i64 0)), .nil, .d (.v (.string ⟨#[]⟩)), .d (.v (.string ⟨#[]⟩)), .nil, .nil, .d (.v (.int .i64 0))]⟩
  | 140 => some ⟨.st [⟨0, 1, false⟩, ⟨1, 3, true⟩], 4, 64, [.d (.v (.string ⟨#[]⟩)), .d (.v (.int .i64 0)), .d (.v (.string ⟨#[]⟩)), .nil]⟩
  | 141 => some ⟨.st [⟨0, 1, false⟩, ⟨1, 3, true⟩], 4, 64, [.d (.v (.string ⟨#[]⟩)), .d (.v (.int .i64 0)), .d (.v (.string ⟨#[]⟩)), .nil]⟩
  | 143 => some ⟨.st [⟨0, 1, false⟩, ⟨1, 3, true⟩], 4, 64, [.d (.v (.string ⟨#[]⟩)), .d (.v (.int .i64 0)), .d (.v (.string ⟨#[]⟩)), .nil]⟩
  | 144 => some ⟨.st [⟨0, 1, false⟩, ⟨1, 3, true⟩], 4, 64, [.d (.v (.string ⟨#[]⟩)), .d (.v (.int .i64 0)), .d (.v (.string ⟨#[]⟩)), .nil]⟩
  | 148 => some ⟨.st [⟨0, 1, false⟩, ⟨1, 1, false⟩, ⟨2, 1, false⟩, ⟨3, 1, false⟩], 4, 40, [.d (.v (.pointer none)), .d (.v (.pointer none)), .d (.v (.pointer none)), .d (.v (.string ⟨#[]⟩))]⟩
  | 149 => some ⟨.st [⟨0, 1, false⟩, ⟨1, 1, false⟩, ⟨2, 1, false⟩, ⟨3, 1, false⟩], 4, 40, [.d (.v (.pointer none)), .d (.v (.pointer none)), .d (.v (.pointer none)), .d (.v (.string ⟨#[]⟩))]⟩
  | 154 => some ⟨.one, 1, 4, [.d (.v (.int .u32 0))]⟩
  | 155 => some ⟨.one, 1, 1, [.d (.v (.int .u8 0))]⟩
  | 156 => some ⟨.one, 1, 1, [.d (.v (.int .u8 0))]⟩
  | 159 => some ⟨.one, 1, 4, [.d (.v (.int .i32 0))]⟩
  | 160 => some ⟨.one, 1, 4, [.d (.v (.int .i32 0))]⟩
  | 161 => some ⟨.st [⟨0, 1, false⟩, ⟨1, 1, false⟩, ⟨2, 1, false⟩, ⟨3, 1, false⟩, ⟨4, 1, false⟩, ⟨5, 1, false⟩, ⟨6, 1, false⟩, ⟨7, 1, false⟩, ⟨8, 1, false⟩, ⟨9, 1, false⟩, ⟨10, 1, false⟩], 11, 48, [.d (.v (.int .u64 0)), .d (.v (.int .u64 0)), .d (.v (.int .u32 0)), .d (.v (.int .u8 0)), .d (.v (.int .u8 0)), .d (.v (.int .u8 0)), .d (.v (.int .u8 0)), .d (.v .nilFunc), .d (.v (.pointer none)), .d (.v (.int .i32 0)), .d (.v (.int .i32 0))]⟩
  | 162 => some ⟨.st [⟨0, 1, false⟩, ⟨1, 1, false⟩, ⟨2, 1, false⟩, ⟨3, 1, false⟩, ⟨4, 1, false⟩, ⟨5, 1, false⟩, ⟨6, 1, false⟩, ⟨7, 1, false⟩, ⟨8, 1, false⟩, ⟨9, 1, false⟩, ⟨10, 1, false⟩], 11, 48, [.d (.v (.int .u64 0)), .d (.v (.int .u64 0)), .d (.v (.int .u32 0)), .d (.v (.int .u8 0)), .d (.v (.int .u8 0)), .d (.v (.int .u8 0)), .d (.v (.int .u8 0)), .d (.v .nilFunc), .d (.v (.pointer none)), .d (.v (.int .i32 0)), .d (.v (.int .i32 0))]⟩
  | _ => none
@[go_sem] theorem ty2 : ty 2 = some ⟨.one, 1, 8, [.d (.v (.int .i64 0))]⟩ := rfl
@[go_sem] theorem ty3 : ty 3 = some ⟨.one, 1, 8, [.d (.v (.int .i64 0))]⟩ := rfl
@[go_sem] theorem ty4 : ty 4 = some ⟨.boo, 1, 1, [.d (.v (.bool false))]⟩ := rfl
@[go_sem] theorem ty5 : ty 5 = some ⟨.one, 1, 1, [.d (.v (.int .u8 0))]⟩ := rfl
@[go_sem] theorem ty6 : ty 6 = some ⟨.one, 1, 1, [.d (.v (.int .u8 0))]⟩ := rfl
@[go_sem] theorem ty7 : ty 7 = some ⟨.st [⟨0, 1, false⟩, ⟨1, 1, false⟩, ⟨2, 1, false⟩, ⟨3, 1, false⟩], 4, 24, [.d (.v (.int .i64 0)), .d (.v (.int .i64 0)), .d (.v (.bool false)), .d (.v (.int .u8 0))]⟩ := rfl
@[go_sem] theorem ty8 : ty 8 = some ⟨.st [⟨0, 1, false⟩, ⟨1, 1, false⟩, ⟨2, 1, false⟩, ⟨3, 1, false⟩], 4, 24, [.d (.v (.int .i64 0)), .d (.v (.int .i64 0)), .d (.v (.bool false)), .d (.v (.int .u8 0))]⟩ := rfl
@[go_sem] theorem ty9 : ty 9 = some ⟨.str, 1, 16, [.d (.v (.string ⟨#[]⟩))]⟩ := rfl
@[go_sem] theorem ty10 : ty 10 = some ⟨.str, 1, 16, [.d (.v (.string ⟨#[]⟩))]⟩ := rfl
@[go_sem] theorem ty11 : ty 11 = some ⟨.str, 1, 16, [.d (.v (.string ⟨#[]⟩))]⟩ := rfl
@[go_sem] theorem ty12 : ty 12 = some ⟨.one, 1, 8, [.d (.v (.int .u64 0))]⟩ := rfl
@[go_sem] theorem ty13 : ty 13 = some ⟨.st [⟨0, 1, false⟩, ⟨1, 1, false⟩], 2, 24, [.d (.v (.string ⟨#[]⟩)), .d (.v (.int .u64 0))]⟩ := rfl
@[go_sem] theorem ty14 : ty 14 = some ⟨.st [⟨0, 1, false⟩, ⟨1, 1, false⟩], 2, 24, [.d (.v (.string ⟨#[]⟩)), .d (.v (.int .u64 0))]⟩ := rfl
@[go_sem] theorem ty18 : ty 18 = some ⟨.st [⟨0, 1, false⟩], 1, 8, [.d (.v (.pointer none))]⟩ := rfl
@[go_sem] theorem ty19 : ty 19 = some ⟨.st [⟨0, 1, false⟩], 1, 8, [.d (.v (.pointer none))]⟩ := rfl
@[go_sem] theorem ty21 : ty 21 = some ⟨.one, 1, 4, [.d (.v (.int .i32 0))]⟩ := rfl
@[go_sem] theorem ty22 : ty 22 = some ⟨.slc 24, 1, 24, [.nil]⟩ := rfl
@[go_sem] theorem ty23 : ty 23 = some ⟨.st [⟨0, 1, false⟩, ⟨1, 1, false⟩, ⟨2, 1, false⟩], 3, 48, [.d (.v (.int .i64 0)), .d (.v (.string ⟨#[]⟩)), .nil]⟩ := rfl
@[go_sem] theorem ty24 : ty 24 = some ⟨.st [⟨0, 1, false⟩, ⟨1, 1, false⟩, ⟨2, 1, false⟩], 3, 48, [.d (.v (.int .i64 0)), .d (.v (.string ⟨#[]⟩)), .nil]⟩ := rfl
@[go_sem] theorem ty26 : ty 26 = some ⟨.slc 9, 1, 24, [.nil]⟩ := rfl
@[go_sem] theorem ty28 : ty 28 = some ⟨.slc 30, 1, 24, [.nil]⟩ := rfl
@[go_sem] theorem ty29 : ty 29 = some ⟨.st [⟨0, 1, false⟩, ⟨1, 1, false⟩, ⟨2, 1, false⟩], 3, 48, [.d (.v (.int .i64 0)), .d (.v (.string ⟨#[]⟩)), .nil]⟩ := rfl
@[go_sem] theorem ty30 : ty 30 = some ⟨.st [⟨0, 1, false⟩, ⟨1, 1, false⟩, ⟨2, 1, false⟩], 3, 48, [.d (.v (.int .i64 0)), .d (.v (.string ⟨#[]⟩)), .nil]⟩ := rfl
@[go_sem] theorem ty37 : ty 37 = some ⟨.slc 52, 1, 24, [.nil]⟩ := rfl
@[go_sem] theorem ty38 : ty 38 = some ⟨.st [⟨0, 1, false⟩], 1, 24, [.nil]⟩ := rfl
@[go_sem] theorem ty39 : ty 39 = some ⟨.st [⟨0, 1, false⟩], 1, 24, [.nil]⟩ := rfl
@[go_sem] theorem ty42 : ty 42 = some ⟨.slc 56, 1, 24, [.nil]⟩ := rfl
@[go_sem] theorem ty43 : ty 43 = some ⟨.st [⟨0, 1, false⟩], 1, 24, [.nil]⟩ := rfl
@[go_sem] theorem ty44 : ty 44 = some ⟨.st [⟨0, 1, false⟩], 1, 24, [.nil]⟩ := rfl
@[go_sem] theorem ty51 : ty 51 = some ⟨.st [⟨0, 1, false⟩, ⟨1, 1, false⟩, ⟨2, 1, false⟩, ⟨3, 1, false⟩, ⟨4, 3, true⟩], 7, 128, [.d (.v (.string ⟨#[]⟩)), .d (.v (.string ⟨#[]⟩)), .nil, .nil, .d (.v (.int .i64 0)), .d (.v (.string ⟨#[]⟩)), .nil]⟩ := rfl
@[go_sem] theorem ty52 : ty 52 = some ⟨.st [⟨0, 1, false⟩, ⟨1, 1, false⟩, ⟨2, 1, false⟩, ⟨3, 1, false⟩, ⟨4, 3, true⟩], 7, 128, [.d (.v (.string ⟨#[]⟩)), .d (.v (.string ⟨#[]⟩)), .nil, .nil, .d (.v (.int .i64 0)), .d (.v (.string ⟨#[]⟩)), .nil]⟩ := rfl
@[go_sem] theorem ty55 : ty 55 = some ⟨.st [⟨0, 1, false⟩, ⟨1, 1, false⟩, ⟨2, 1, false⟩, ⟨3, 1, false⟩, ⟨4, 3, true⟩], 7, 128, [.d (.v (.string ⟨#[]⟩)), .d (.v (.string ⟨#[]⟩)), .nil, .nil, .d (.v (.int .i64 0)), .d (.v (.string ⟨#[]⟩)), .nil]⟩ := rfl
@[go_sem] theorem ty56 : ty 56 = some ⟨.st [⟨0, 1, false⟩, ⟨1, 1, false⟩, ⟨2, 1, false⟩, ⟨3, 1, false⟩, ⟨4, 3, true⟩], 7, 128, [.d (.v (.string ⟨#[]⟩)), .d (.v (.string ⟨#[]⟩)), .nil, .nil, .d (.v (.int .i64 0)), .d (.v (.string ⟨#[]⟩)), .nil]⟩ := rfl
@[go_sem] theorem ty61 : ty 61 = some ⟨.slc 3, 1, 24, [.nil]⟩ := rfl
@[go_sem] theorem ty62 : ty 62 = some ⟨.slc 61, 1, 24, [.nil]⟩ := rfl
@[go_sem] theorem ty63 : ty 63 = some ⟨.st [⟨0, 1, false⟩, ⟨1, 1, false⟩, ⟨2, 1, false⟩, ⟨3, 1, false⟩, ⟨4, 1, false⟩, ⟨5, 1, false⟩, ⟨6, 1, false⟩], 7, 152, [.nil, .nil, .nil, .nil, .nil, .nil, .d (.v (.int .i64 0))]⟩ := rfl
@[go_sem] theorem ty64 : ty 64 = some ⟨.st [⟨0, 1, false⟩, ⟨1, 1, false⟩, ⟨2, 1, false⟩, ⟨3, 1, false⟩, ⟨4, 1, false⟩, ⟨5, 1, false⟩, ⟨6, 1, false⟩], 7, 152, [.nil, .nil, .nil, .nil, .nil, .nil, .d (.v (.int .i64 0))]⟩ := rfl
@[go_sem] theorem ty67 : ty 67 = some ⟨.st [⟨0, 1, false⟩, ⟨1, 1, false⟩, ⟨2, 1, false⟩, ⟨3, 1, false⟩, ⟨4, 1, false⟩, ⟨5, 1, false⟩, ⟨6, 1, false⟩], 7, 152, [.nil, .nil, .nil, .nil, .nil, .nil, .d (.v (.int .i64 0))]⟩ := rfl
@[go_sem] theorem ty75 : ty 75 = some ⟨.slc 131, 1, 24, [.nil]⟩ := rfl
@[go_sem] theorem ty76 : ty 76 = some ⟨.st [⟨0, 1, false⟩], 1, 24, [.nil]⟩ := rfl
@[go_sem] theorem ty77 : ty 77 = some ⟨.st [⟨0, 1, false⟩], 1, 24, [.nil]⟩ := rfl
@[go_sem] theorem ty80 : ty 80 = some ⟨.slc 114, 1, 24, [.nil]⟩ := rfl
@[go_sem] theorem ty81 : ty 81 = some ⟨.st [⟨0, 1, false⟩], 1, 24, [.nil]⟩ := rfl
@[go_sem] theorem ty82 : ty 82 = some ⟨.st [⟨0, 1, false⟩], 1, 24, [.nil]⟩ := rfl
@[go_sem] theorem ty112 : ty 112 = some ⟨.slc 141, 1, 24, [.nil]⟩ := rfl
@[go_sem] theorem ty113 : ty 113 = some ⟨.st [⟨0, 1, false⟩, ⟨1, 3, true⟩, ⟨4, 1, false⟩, ⟨5, 1, false⟩, ⟨6, 1, false⟩, ⟨7, 1, false⟩, ⟨8, 1, false⟩, ⟨9, 1, false⟩, ⟨10, 1, false⟩], 11, 176, [.d (.v (.int .i64 0)), .d (.v (.int .i64 0)), .d (.v (.string ⟨#[]⟩)), .nil, .d (.v (.int .i64 0)), .nil, .d (.v (.string ⟨#[]⟩)), .d (.v (.string ⟨#[]⟩)), .nil, .nil, .d (.v (.int .i64 0))]⟩ := rfl
@[go_sem] theorem ty114 : ty 114 = some ⟨.st [⟨0, 1, false⟩, ⟨1, 3, true⟩, ⟨4, 1, false⟩, ⟨5, 1, false⟩, ⟨6, 1, false⟩, ⟨7, 1, false⟩, ⟨8, 1, false⟩, ⟨9, 1, false⟩, ⟨10, 1, false⟩], 11, 176, [.d (.v (.int .i64 0)), .d (.v (.int .i64 0)), .d (.v (.string ⟨#[]⟩)), .nil, .d (.v (.int .i64 0)), .nil, .d (.v (.string ⟨#[]⟩)), .d (.v (.string ⟨#[]⟩)), .nil, .nil, .d (.v (.int .i64 0))]⟩ := rfl
@[go_sem] theorem ty122 : ty 122 = some ⟨.slc 5, 1, 24, [.nil]⟩ := rfl
@[go_sem] theorem ty124 : ty 124 = some ⟨.slc 26, 1, 24, [.nil]⟩ := rfl
@[go_sem] theorem ty129 : ty 129 = some ⟨.slc 144, 1, 24, [.nil]⟩ := rfl
@[go_sem] theorem ty130 : ty 130 = some ⟨.st [⟨0, 1, false⟩, ⟨1, 3, true⟩, ⟨4, 1, false⟩, ⟨5, 1, false⟩, ⟨6, 1, false⟩, ⟨7, 1, false⟩, ⟨8, 1, false⟩, ⟨9, 1, false⟩, ⟨10, 1, false⟩], 11, 176, [.d (.v (.int .i64 0)), .d (.v (.int .i64 0)), .d (.v (.string ⟨#[]⟩)), .nil, .d (.v (.int .i64 0)), .nil, .d (.v (.string ⟨#[]⟩)), .d (.v (.string ⟨#[]⟩)), .nil, .nil, .d (.v (.int .i64 0))]⟩ := rfl
@[go_sem] theorem ty131 : ty 131 = some ⟨.st [⟨0, 1, false⟩, ⟨1, 3, true⟩, ⟨4, 1, false⟩, ⟨5, 1, false⟩, ⟨6, 1, false⟩, ⟨7, 1, false⟩, ⟨8, 1, false⟩, ⟨9, 1, false⟩, ⟨10, 1, false⟩], 11, 176, [.d (.v (.int .i64 0)), .d (.v (.int .i64 0)), .d (.v (.string ⟨#[]⟩)), .nil, .d (.v (.int .i64 0)), .nil, .d (.v (.string ⟨#[]⟩)), .d (.v (.string ⟨#[]⟩)), .nil, .nil, .d (.v (.int .i64 0))]⟩ := rfl
@[go_sem] theorem ty140 : ty 140 = some ⟨.st [⟨0, 1, false⟩, ⟨1, 3, true⟩], 4, 64, [.d (.v (.string ⟨#[]⟩)), .d (.v (.int .i64 0)), .d (.v (.string ⟨#[]⟩)), .nil]⟩ := rfl
@[go_sem] theorem ty141 : ty 141 = some ⟨.st [⟨0, 1, false⟩, ⟨1, 3, true⟩], 4, 64, [.d (.v (.string ⟨#[]⟩)), .d (.v (.int .i64 0)), .d (.v (.string ⟨#[]⟩)), .nil]⟩ := rfl
@[go_sem] theorem ty143 : ty 143 = some ⟨.st [⟨0, 1, false⟩, ⟨1, 3, true⟩], 4, 64, [.d (.v (.string ⟨#[]⟩)), .d (.v (.int .i64 0)), .d (.v (.string ⟨#[]⟩)), .nil]⟩ := rfl
@[go_sem] theorem ty144 : ty 144 = some ⟨.st [⟨0, 1, false⟩, ⟨1, 3, true⟩], 4, 64, [.d (.v (.string ⟨#[]⟩)), .d (.v (.int .i64 0)), .d (.v (.string ⟨#[]⟩)), .nil]⟩ := rfl
@[go_sem] theorem ty148 : ty 148 = some ⟨.st [⟨0, 1, false⟩, ⟨1, 1, false⟩, ⟨2, 1, false⟩, ⟨3, 1, false⟩], 4, 40, [.d (.v (.pointer none)), .d (.v (.pointer none)), .d (.v (.pointer none)), .d (.v (.string ⟨#[]⟩))]⟩ := rfl
@[go_sem] theorem ty149 : ty 149 = some ⟨.st [⟨0, 1, false⟩, ⟨1, 1, false⟩, ⟨2, 1, false⟩, ⟨3, 1, false⟩], 4, 40, [.d (.v (.pointer none)), .d (.v (.pointer none)), .d (.v (.pointer none)), .d (.v (.string ⟨#[]⟩))]⟩ := rfl
@[go_sem] theorem ty154 : ty 154 = some ⟨.one, 1, 4, [.d (.v (.int .u32 0))]⟩ := rfl
@[go_sem] theorem ty155 : ty 155 = some ⟨.one, 1, 1, [.d (.v (.int .u8 0))]⟩ := rfl
@[go_sem] theorem ty156 : ty 156 = some ⟨.one, 1, 1, [.d (.v (.int .u8 0))]⟩ := rfl
@[go_sem] theorem ty159 : ty 159 = some ⟨.one, 1, 4, [.d (.v (.int .i32 0))]⟩ := rfl
@[go_sem] theorem ty160 : ty 160 = some ⟨.one, 1, 4, [.d (.v (.int .i32 0))]⟩ := rfl
@[go_sem] theorem ty161 : ty 161 = some ⟨.st [⟨0, 1, false⟩, ⟨1, 1, false⟩, ⟨2, 1, false⟩, ⟨3, 1, false⟩, ⟨4, 1, false⟩, ⟨5, 1, false⟩, ⟨6, 1, false⟩, ⟨7, 1, false⟩, ⟨8, 1, false⟩, ⟨9, 1, false⟩, ⟨10, 1, false⟩], 11, 48, [.d (.v (.int .u64 0)), .d (.v (.int .u64 0)), .d (.v (.int .u32 0)), .d (.v (.int .u8 0)), .d (.v (.int .u8 0)), .d (.v (.int .u8 0)), .d (.v (.int .u8 0)), .d (.v .nilFunc), .d (.v (.pointer none)), .d (.v (.int .i32 0)), .d (.v (.int .i32 0))]⟩ := rfl
@[go_sem] theorem ty162 : ty 162 = some ⟨.st [⟨0, 1, false⟩, ⟨1, 1, false⟩, ⟨2, 1, false⟩, ⟨3, 1, false⟩, ⟨4, 1, false⟩, ⟨5, 1, false⟩, ⟨6, 1, false⟩, ⟨7, 1, false⟩, ⟨8, 1, false⟩, ⟨9, 1, false⟩, ⟨10, 1, false⟩], 11, 48, [.d (.v (.int .u64 0)), .d (.v (.int .u64 0)), .d (.v (.int .u32 0)), .d (.v (.int .u8 0)), .d (.v (.int .u8 0)), .d (.v (.int .u8 0)), .d (.v (.int .u8 0)), .d (.v .nilFunc), .d (.v (.pointer none)), .d (.v (.int .i32 0)), .d (.v (.int .i32 0))]⟩ := rfl
theorem tyOk2 : TIOk Try.prog 2 ⟨.one, 1, 8, [.d (.v (.int .i64 0))]⟩ := by
  refine tiok_of (z := (.int .i64 0 : Value)) (by kernel_rfl) (by kernel_rfl) (by kernel_rfl) (by simp [ZsOk, ZOk, sc, Value.cells]) rfl (by decide) ?_ ?_ ?_
  · exact fun _ => ⟨_, rfl, rfl⟩
  · exact fun h => (by cases h)
  · exact ⟨rfl, _, Try.underlying2, fun q h => (by cases h), fun n e h => (by cases h)⟩
theorem tyOk3 : TIOk Try.prog 3 ⟨.one, 1, 8, [.d (.v (.int .i64 0))]⟩ := by
  refine tiok_of (z := (.int .i64 0 : Value)) (by kernel_rfl) (by kernel_rfl) (by kernel_rfl) (by simp [ZsOk, ZOk, sc, Value.cells]) rfl (by decide) ?_ ?_ ?_
  · exact fun _ => ⟨_, rfl, rfl⟩
  · exact fun h => (by cases h)
  · exact ⟨rfl, _, Try.underlying3, fun q h => (by cases h), fun n e h => (by cases h)⟩
theorem tyOk4 : TIOk Try.prog 4 ⟨.boo, 1, 1, [.d (.v (.bool false))]⟩ := by
  refine tiok_of (z := (.bool false : Value)) (by kernel_rfl) (by kernel_rfl) (by kernel_rfl) (by simp [ZsOk, ZOk, sc, Value.cells]) rfl (by decide) ?_ ?_ ?_
  · exact fun _ => ⟨_, rfl, rfl⟩
  · exact fun h => (by cases h)
  · exact ⟨rfl, Try.underlying4⟩
theorem tyOk5 : TIOk Try.prog 5 ⟨.one, 1, 1, [.d (.v (.int .u8 0))]⟩ := by
  refine tiok_of (z := (.int .u8 0 : Value)) (by kernel_rfl) (by kernel_rfl) (by kernel_rfl) (by simp [ZsOk, ZOk, sc, Value.cells]) rfl (by decide) ?_ ?_ ?_
  · exact fun _ => ⟨_, rfl, rfl⟩
  · exact fun h => (by cases h)
  · exact ⟨rfl, _, Try.underlying5, fun q h => (by cases h), fun n e h => (by cases h)⟩
theorem tyOk6 : TIOk Try.prog 6 ⟨.one, 1, 1, [.d (.v (.int .u8 0))]⟩ := by
  refine tiok_of (z := (.int .u8 0 : Value)) (by kernel_rfl) (by kernel_rfl) (by kernel_rfl) (by simp [ZsOk, ZOk, sc, Value.cells]) rfl (by decide) ?_ ?_ ?_
  · exact fun _ => ⟨_, rfl, rfl⟩
  · exact fun h => (by cases h)
  · exact ⟨rfl, _, Try.underlying6, fun q h => (by cases h), fun n e h => (by cases h)⟩
theorem tyOk7 : TIOk Try.prog 7 ⟨.st [⟨0, 1, false⟩, ⟨1, 1, false⟩, ⟨2, 1, false⟩, ⟨3, 1, false⟩], 4, 24, [.d (.v (.int .i64 0)), .d (.v (.int .i64 0)), .d (.v (.bool false)), .d (.v (.int .u8 0))]⟩ := by
  refine tiok_of (z := (.agg #[.int .i64 0, .int .i64 0, .bool false, .int .u8 0] : Value)) (by kernel_rfl) (by kernel_rfl) (by kernel_rfl) (by simp [ZsOk, ZOk, sc, Value.cells]) rfl (by decide) ?_ ?_ ?_
  · exact fun h => (by cases h)
  · exact fun _ => ⟨_, rfl⟩
  · refine ⟨_, Try.underlying7, ?_⟩
    refine ⟨⟨rfl, by kernel_rfl, by decide, fun h => (by cases h), fun _ => ⟨rfl, _, Try.underlying2, fun q h => (by cases h), fun n e h => (by cases h)⟩, exists_of_isSome (by kernel_rfl)⟩, ?_⟩
    refine ⟨⟨rfl, by kernel_rfl, by decide, fun h => (by cases h), fun _ => ⟨rfl, _, Try.underlying3, fun q h => (by cases h), fun n e h => (by cases h)⟩, exists_of_isSome (by kernel_rfl)⟩, ?_⟩
    refine ⟨⟨rfl, by kernel_rfl, by decide, fun h => (by cases h), fun _ => ⟨rfl, _, Try.underlying4, fun q h => (by cases h), fun n e h => (by cases h)⟩, exists_of_isSome (by kernel_rfl)⟩, ?_⟩
    refine ⟨⟨rfl, by kernel_rfl, by decide, fun h => (by cases h), fun _ => ⟨rfl, _, Try.underlying6, fun q h => (by cases h), fun n e h => (by cases h)⟩, exists_of_isSome (by kernel_rfl)⟩, ?_⟩
    trivial
theorem tyOk8 : TIOk Try.prog 8 ⟨.st [⟨0, 1, false⟩, ⟨1, 1, false⟩, ⟨2, 1, false⟩, ⟨3, 1, false⟩], 4, 24, [.d (.v (.int .i64 0)), .d (.v (.int .i64 0)), .d (.v (.bool false)), .d (.v (.int .u8 0))]⟩ := by
  refine tiok_of (z := (.agg #[.int .i64 0, .int .i64 0, .bool false, .int .u8 0] : Value)) (by kernel_rfl) (by kernel_rfl) (by kernel_rfl) (by simp [ZsOk, ZOk, sc, Value.cells]) rfl (by decide) ?_ ?_ ?_
  · exact fun h => (by cases h)
  · exact fun _ => ⟨_, rfl⟩
  · refine ⟨_, Try.underlying8, ?_⟩
    refine ⟨⟨rfl, by kernel_rfl, by decide, fun h => (by cases h), fun _ => ⟨rfl, _, Try.underlying2, fun q h => (by cases h), fun n e h => (by cases h)⟩, exists_of_isSome (by kernel_rfl)⟩, ?_⟩
    refine ⟨⟨rfl, by kernel_rfl, by decide, fun h => (by cases h), fun _ => ⟨rfl, _, Try.underlying3, fun q h => (by cases h), fun n e h => (by cases h)⟩, exists_of_isSome (by kernel_rfl)⟩, ?_⟩
    refine ⟨⟨rfl, by kernel_rfl, by decide, fun h => (by cases h), fun _ => ⟨rfl, _, Try.underlying4, fun q h => (by cases h), fun n e h => (by cases h)⟩, exists_of_isSome (by kernel_rfl)⟩, ?_⟩
    refine ⟨⟨rfl, by kernel_rfl, by decide, fun h => (by cases h), fun _ => ⟨rfl, _, Try.underlying6, fun q h => (by cases h), fun n e h => (by cases h)⟩, exists_of_isSome (by kernel_rfl)⟩, ?_⟩
    trivial
theorem tyOk9 : TIOk Try.prog 9 ⟨.str, 1, 16, [.d (.v (.string ⟨#[]⟩))]⟩ := by
  refine tiok_of (z := (.string ⟨#[]⟩ : Value)) (by kernel_rfl) (by kernel_rfl) (by kernel_rfl) (by simp [ZsOk, ZOk, sc, Value.cells]) rfl (by decide) ?_ ?_ ?_
  · exact fun _ => ⟨_, rfl, rfl⟩
  · exact fun h => (by cases h)
  · exact ⟨rfl, Try.underlying9⟩
theorem tyOk10 : TIOk Try.prog 10 ⟨.str, 1, 16, [.d (.v (.string ⟨#[]⟩))]⟩ := by
  refine tiok_of (z := (.string ⟨#[]⟩ : Value)) (by kernel_rfl) (by kernel_rfl) (by kernel_rfl) (by simp [ZsOk, ZOk, sc, Value.cells]) rfl (by decide) ?_ ?_ ?_
  · exact fun _ => ⟨_, rfl, rfl⟩
  · exact fun h => (by cases h)
  · exact ⟨rfl, Try.underlying10⟩
theorem tyOk11 : TIOk Try.prog 11 ⟨.str, 1, 16, [.d (.v (.string ⟨#[]⟩))]⟩ := by
  refine tiok_of (z := (.string ⟨#[]⟩ : Value)) (by kernel_rfl) (by kernel_rfl) (by kernel_rfl) (by simp [ZsOk, ZOk, sc, Value.cells]) rfl (by decide) ?_ ?_ ?_
  · exact fun _ => ⟨_, rfl, rfl⟩
  · exact fun h => (by cases h)
  · exact ⟨rfl, Try.underlying11⟩
theorem tyOk12 : TIOk Try.prog 12 ⟨.one, 1, 8, [.d (.v (.int .u64 0))]⟩ := by
  refine tiok_of (z := (.int .u64 0 : Value)) (by kernel_rfl) (by kernel_rfl) (by kernel_rfl) (by simp [ZsOk, ZOk, sc, Value.cells]) rfl (by decide) ?_ ?_ ?_
  · exact fun _ => ⟨_, rfl, rfl⟩
  · exact fun h => (by cases h)
  · exact ⟨rfl, _, Try.underlying12, fun q h => (by cases h), fun n e h => (by cases h)⟩
theorem tyOk13 : TIOk Try.prog 13 ⟨.st [⟨0, 1, false⟩, ⟨1, 1, false⟩], 2, 24, [.d (.v (.string ⟨#[]⟩)), .d (.v (.int .u64 0))]⟩ := by
  refine tiok_of (z := (.agg #[.string ⟨#[]⟩, .int .u64 0] : Value)) (by kernel_rfl) (by kernel_rfl) (by kernel_rfl) (by simp [ZsOk, ZOk, sc, Value.cells]) rfl (by decide) ?_ ?_ ?_
  · exact fun h => (by cases h)
  · exact fun _ => ⟨_, rfl⟩
  · refine ⟨_, Try.underlying13, ?_⟩
    refine ⟨⟨rfl, by kernel_rfl, by decide, fun h => (by cases h), fun _ => ⟨rfl, _, Try.underlying9, fun q h => (by cases h), fun n e h => (by cases h)⟩, exists_of_isSome (by kernel_rfl)⟩, ?_⟩
    refine ⟨⟨rfl, by kernel_rfl, by decide, fun h => (by cases h), fun _ => ⟨rfl, _, Try.underlying12, fun q h => (by cases h), fun n e h => (by cases h)⟩, exists_of_isSome (by kernel_rfl)⟩, ?_⟩
    trivial
theorem tyOk14 : TIOk Try.prog 14 ⟨.st [⟨0, 1, false⟩, ⟨1, 1, false⟩], 2, 24, [.d (.v (.string ⟨#[]⟩)), .d (.v (.int .u64 0))]⟩ := by
  refine tiok_of (z := (.agg #[.string ⟨#[]⟩, .int .u64 0] : Value)) (by kernel_rfl) (by kernel_rfl) (by kernel_rfl) (by simp [ZsOk, ZOk, sc, Value.cells]) rfl (by decide) ?_ ?_ ?_
  · exact fun h => (by cases h)
  · exact fun _ => ⟨_, rfl⟩
  · refine ⟨_, Try.underlying14, ?_⟩
    refine ⟨⟨rfl, by kernel_rfl, by decide, fun h => (by cases h), fun _ => ⟨rfl, _, Try.underlying9, fun q h => (by cases h), fun n e h => (by cases h)⟩, exists_of_isSome (by kernel_rfl)⟩, ?_⟩
    refine ⟨⟨rfl, by kernel_rfl, by decide, fun h => (by cases h), fun _ => ⟨rfl, _, Try.underlying12, fun q h => (by cases h), fun n e h => (by cases h)⟩, exists_of_isSome (by kernel_rfl)⟩, ?_⟩
    trivial
theorem tyOk18 : TIOk Try.prog 18 ⟨.st [⟨0, 1, false⟩], 1, 8, [.d (.v (.pointer none))]⟩ := by
  refine tiok_of (z := (.agg #[.pointer none] : Value)) (by kernel_rfl) (by kernel_rfl) (by kernel_rfl) (by simp [ZsOk, ZOk, sc, Value.cells]) rfl (by decide) ?_ ?_ ?_
  · exact fun h => (by cases h)
  · exact fun _ => ⟨_, rfl⟩
  · refine ⟨_, Try.underlying18, ?_⟩
    refine ⟨⟨rfl, by kernel_rfl, by decide, fun h => (by cases h), fun _ => ⟨rfl, _, Try.underlying17, fun q h => (by cases h), fun n e h => (by cases h)⟩, exists_of_isSome (by kernel_rfl)⟩, ?_⟩
    trivial
theorem tyOk19 : TIOk Try.prog 19 ⟨.st [⟨0, 1, false⟩], 1, 8, [.d (.v (.pointer none))]⟩ := by
  refine tiok_of (z := (.agg #[.pointer none] : Value)) (by kernel_rfl) (by kernel_rfl) (by kernel_rfl) (by simp [ZsOk, ZOk, sc, Value.cells]) rfl (by decide) ?_ ?_ ?_
  · exact fun h => (by cases h)
  · exact fun _ => ⟨_, rfl⟩
  · refine ⟨_, Try.underlying19, ?_⟩
    refine ⟨⟨rfl, by kernel_rfl, by decide, fun h => (by cases h), fun _ => ⟨rfl, _, Try.underlying17, fun q h => (by cases h), fun n e h => (by cases h)⟩, exists_of_isSome (by kernel_rfl)⟩, ?_⟩
    trivial
theorem tyOk21 : TIOk Try.prog 21 ⟨.one, 1, 4, [.d (.v (.int .i32 0))]⟩ := by
  refine tiok_of (z := (.int .i32 0 : Value)) (by kernel_rfl) (by kernel_rfl) (by kernel_rfl) (by simp [ZsOk, ZOk, sc, Value.cells]) rfl (by decide) ?_ ?_ ?_
  · exact fun _ => ⟨_, rfl, rfl⟩
  · exact fun h => (by cases h)
  · exact ⟨rfl, _, Try.underlying21, fun q h => (by cases h), fun n e h => (by cases h)⟩
theorem tyOk22 : TIOk Try.prog 22 ⟨.slc 24, 1, 24, [.nil]⟩ := by
  refine tiok_of (z := (.slice none 0 0 : Value)) (by kernel_rfl) (by kernel_rfl) (by kernel_rfl) (by simp [ZsOk, ZOk, sc, Value.cells]) rfl (by decide) ?_ ?_ ?_
  · exact fun _ => ⟨_, rfl, rfl⟩
  · exact fun h => (by cases h)
  · exact ⟨rfl, Try.underlying22⟩
theorem tyOk23 : TIOk Try.prog 23 ⟨.st [⟨0, 1, false⟩, ⟨1, 1, false⟩, ⟨2, 1, false⟩], 3, 48, [.d (.v (.int .i64 0)), .d (.v (.string ⟨#[]⟩)), .nil]⟩ := by
  refine tiok_of (z := (.agg #[.int .i64 0, .string ⟨#[]⟩, .slice none 0 0] : Value)) (by kernel_rfl) (by kernel_rfl) (by kernel_rfl) (by simp [ZsOk, ZOk, sc, Value.cells]) rfl (by decide) ?_ ?_ ?_
  · exact fun h => (by cases h)
  · exact fun _ => ⟨_, rfl⟩
  · refine ⟨_, Try.underlying23, ?_⟩
    refine ⟨⟨rfl, by kernel_rfl, by decide, fun h => (by cases h), fun _ => ⟨rfl, _, Try.underlying3, fun q h => (by cases h), fun n e h => (by cases h)⟩, exists_of_isSome (by kernel_rfl)⟩, ?_⟩
    refine ⟨⟨rfl, by kernel_rfl, by decide, fun h => (by cases h), fun _ => ⟨rfl, _, Try.underlying9, fun q h => (by cases h), fun n e h => (by cases h)⟩, exists_of_isSome (by kernel_rfl)⟩, ?_⟩
    refine ⟨⟨rfl, by kernel_rfl, by decide, fun h => (by cases h), fun _ => ⟨rfl, _, Try.underlying22, fun q h => (by cases h), fun n e h => (by cases h)⟩, exists_of_isSome (by kernel_rfl)⟩, ?_⟩
    trivial
theorem tyOk24 : TIOk Try.prog 24 ⟨.st [⟨0, 1, false⟩, ⟨1, 1, false⟩, ⟨2, 1, false⟩], 3, 48, [.d (.v (.int .i64 0)), .d (.v (.string ⟨#[]⟩)), .nil]⟩ := by
  refine tiok_of (z := (.agg #[.int .i64 0, .string ⟨#[]⟩, .slice none 0 0] : Value)) (by kernel_rfl) (by kernel_rfl) (by kernel_rfl) (by simp [ZsOk, ZOk, sc, Value.cells]) rfl (by decide) ?_ ?_ ?_
  · exact fun h => (by cases h)
  · exact fun _ => ⟨_, rfl⟩
  · refine ⟨_, Try.underlying24, ?_⟩
    refine ⟨⟨rfl, by kernel_rfl, by decide, fun h => (by cases h), fun _ => ⟨rfl, _, Try.underlying3, fun q h => (by cases h), fun n e h => (by cases h)⟩, exists_of_isSome (by kernel_rfl)⟩, ?_⟩
    refine ⟨⟨rfl, by kernel_rfl, by decide, fun h => (by cases h), fun _ => ⟨rfl, _, Try.underlying9, fun q h => (by cases h), fun n e h => (by cases h)⟩, exists_of_isSome (by kernel_rfl)⟩, ?_⟩
    refine ⟨⟨rfl, by kernel_rfl, by decide, fun h => (by cases h), fun _ => ⟨rfl, _, Try.underlying22, fun q h => (by cases h), fun n e h => (by cases h)⟩, exists_of_isSome (by kernel_rfl)⟩, ?_⟩
    trivial
theorem tyOk26 : TIOk Try.prog 26 ⟨.slc 9, 1, 24, [.nil]⟩ := by
  refine tiok_of (z := (.slice none 0 0 : Value)) (by kernel_rfl) (by kernel_rfl) (by kernel_rfl) (by simp [ZsOk, ZOk, sc, Value.cells]) rfl (by decide) ?_ ?_ ?_
  · exact fun _ => ⟨_, rfl, rfl⟩
  · exact fun h => (by cases h)
  · exact ⟨rfl, Try.underlying26⟩
theorem tyOk28 : TIOk Try.prog 28 ⟨.slc 30, 1, 24, [.nil]⟩ := by
  refine tiok_of (z := (.slice none 0 0 : Value)) (by kernel_rfl) (by kernel_rfl) (by kernel_rfl) (by simp [ZsOk, ZOk, sc, Value.cells]) rfl (by decide) ?_ ?_ ?_
  · exact fun _ => ⟨_, rfl, rfl⟩
  · exact fun h => (by cases h)
  · exact ⟨rfl, Try.underlying28⟩
theorem tyOk29 : TIOk Try.prog 29 ⟨.st [⟨0, 1, false⟩, ⟨1, 1, false⟩, ⟨2, 1, false⟩], 3, 48, [.d (.v (.int .i64 0)), .d (.v (.string ⟨#[]⟩)), .nil]⟩ := by
  refine tiok_of (z := (.agg #[.int .i64 0, .string ⟨#[]⟩, .slice none 0 0] : Value)) (by kernel_rfl) (by kernel_rfl) (by kernel_rfl) (by simp [ZsOk, ZOk, sc, Value.cells]) rfl (by decide) ?_ ?_ ?_
  · exact fun h => (by cases h)
  · exact fun _ => ⟨_, rfl⟩
  · refine ⟨_, Try.underlying29, ?_⟩
    refine ⟨⟨rfl, by kernel_rfl, by decide, fun h => (by cases h), fun _ => ⟨rfl, _, Try.underlying3, fun q h => (by cases h), fun n e h => (by cases h)⟩, exists_of_isSome (by kernel_rfl)⟩, ?_⟩
    refine ⟨⟨rfl, by kernel_rfl, by decide, fun h => (by cases h), fun _ => ⟨rfl, _, Try.underlying9, fun q h => (by cases h), fun n e h => (by cases h)⟩, exists_of_isSome (by kernel_rfl)⟩, ?_⟩
    refine ⟨⟨rfl, by kernel_rfl, by decide, fun h => (by cases h), fun _ => ⟨rfl, _, Try.underlying28, fun q h => (by cases h), fun n e h => (by cases h)⟩, exists_of_isSome (by kernel_rfl)⟩, ?_⟩
    trivial
theorem tyOk30 : TIOk Try.prog 30 ⟨.st [⟨0, 1, false⟩, ⟨1, 1, false⟩, ⟨2, 1, false⟩], 3, 48, [.d (.v (.int .i64 0)), .d (.v (.string ⟨#[]⟩)), .nil]⟩ := by
  refine tiok_of (z := (.agg #[.int .i64 0, .string ⟨#[]⟩, .slice none 0 0] : Value)) (by kernel_rfl) (by kernel_rfl) (by kernel_rfl) (by simp [ZsOk, ZOk, sc, Value.cells]) rfl (by decide) ?_ ?_ ?_
  · exact fun h => (by cases h)
  · exact fun _ => ⟨_, rfl⟩
  · refine ⟨_, Try.underlying30, ?_⟩
    refine ⟨⟨rfl, by kernel_rfl, by decide, fun h => (by cases h), fun _ => ⟨rfl, _, Try.underlying3, fun q h => (by cases h), fun n e h => (by cases h)⟩, exists_of_isSome (by kernel_rfl)⟩, ?_⟩
    refine ⟨⟨rfl, by kernel_rfl, by decide, fun h => (by cases h), fun _ => ⟨rfl, _, Try.underlying9, fun q h => (by cases h), fun n e h => (by cases h)⟩, exists_of_isSome (by kernel_rfl)⟩, ?_⟩
    refine ⟨⟨rfl, by kernel_rfl, by decide, fun h => (by cases h), fun _ => ⟨rfl, _, Try.underlying28, fun q h => (by cases h), fun n e h => (by cases h)⟩, exists_of_isSome (by kernel_rfl)⟩, ?_⟩
    trivial
theorem tyOk37 : TIOk Try.prog 37 ⟨.slc 52, 1, 24, [.nil]⟩ := by
  refine tiok_of (z := (.slice none 0 0 : Value)) (by kernel_rfl) (by kernel_rfl) (by kernel_rfl) (by simp [ZsOk, ZOk, sc, Value.cells]) rfl (by decide) ?_ ?_ ?_
  · exact fun _ => ⟨_, rfl, rfl⟩
  · exact fun h => (by cases h)
  · exact ⟨rfl, Try.underlying37⟩
theorem tyOk38 : TIOk Try.prog 38 ⟨.st [⟨0, 1, false⟩], 1, 24, [.nil]⟩ := by
  refine tiok_of (z := (.agg #[.slice none 0 0] : Value)) (by kernel_rfl) (by kernel_rfl) (by kernel_rfl) (by simp [ZsOk, ZOk, sc, Value.cells]) rfl (by decide) ?_ ?_ ?_
  · exact fun h => (by cases h)
  · exact fun _ => ⟨_, rfl⟩
  · refine ⟨_, Try.underlying38, ?_⟩
    refine ⟨⟨rfl, by kernel_rfl, by decide, fun h => (by cases h), fun _ => ⟨rfl, _, Try.underlying37, fun q h => (by cases h), fun n e h => (by cases h)⟩, exists_of_isSome (by kernel_rfl)⟩, ?_⟩
    trivial
theorem tyOk39 : TIOk Try.prog 39 ⟨.st [⟨0, 1, false⟩], 1, 24, [.nil]⟩ := by
  refine tiok_of (z := (.agg #[.slice none 0 0] : Value)) (by kernel_rfl) (by kernel_rfl) (by kernel_rfl) (by simp [ZsOk, ZOk, sc, Value.cells]) rfl (by decide) ?_ ?_ ?_
  · exact fun h => (by cases h)
  · exact fun _ => ⟨_, rfl⟩
  · refine ⟨_, Try.underlying39, ?_⟩
    refine ⟨⟨rfl, by kernel_rfl, by decide, fun h => (by cases h), fun _ => ⟨rfl, _, Try.underlying37, fun q h => (by cases h), fun n e h => (by cases h)⟩, exists_of_isSome (by kernel_rfl)⟩, ?_⟩
    trivial
theorem tyOk42 : TIOk Try.prog 42 ⟨.slc 56, 1, 24, [.nil]⟩ := by
  refine tiok_of (z := (.slice none 0 0 : Value)) (by kernel_rfl) (by kernel_rfl) (by kernel_rfl) (by simp [ZsOk, ZOk, sc, Value.cells]) rfl (by decide) ?_ ?_ ?_
  · exact fun _ => ⟨_, rfl, rfl⟩
  · exact fun h => (by cases h)
  · exact ⟨rfl, Try.underlying42⟩
theorem tyOk43 : TIOk Try.prog 43 ⟨.st [⟨0, 1, false⟩], 1, 24, [.nil]⟩ := by
  refine tiok_of (z := (.agg #[.slice none 0 0] : Value)) (by kernel_rfl) (by kernel_rfl) (by kernel_rfl) (by simp [ZsOk, ZOk, sc, Value.cells]) rfl (by decide) ?_ ?_ ?_
  · exact fun h => (by cases h)
  · exact fun _ => ⟨_, rfl⟩
  · refine ⟨_, Try.underlying43, ?_⟩
    refine ⟨⟨rfl, by kernel_rfl, by decide, fun h => (by cases h), fun _ => ⟨rfl, _, Try.underlying42, fun q h => (by cases h), fun n e h => (by cases h)⟩, exists_of_isSome (by kernel_rfl)⟩, ?_⟩
    trivial
theorem tyOk44 : TIOk Try.prog 44 ⟨.st [⟨0, 1, false⟩], 1, 24, [.nil]⟩ := by
  refine tiok_of (z := (.agg #[.slice none 0 0] : Value)) (by kernel_rfl) (by kernel_rfl) (by kernel_rfl) (by simp [ZsOk, ZOk, sc, Value.cells]) rfl (by decide) ?_ ?_ ?_
  · exact fun h => (by cases h)
  · exact fun _ => ⟨_, rfl⟩
  · refine ⟨_, Try.underlying44, ?_⟩
    refine ⟨⟨rfl, by kernel_rfl, by decide, fun h => (by cases h), fun _ => ⟨rfl, _, Try.underlying42, fun q h => (by cases h), fun n e h => (by cases h)⟩, exists_of_isSome (by kernel_rfl)⟩, ?_⟩
    trivial
theorem tyOk51 : TIOk Try.prog 51 ⟨.st [⟨0, 1, false⟩, ⟨1, 1, false⟩, ⟨2, 1, false⟩, ⟨3, 1, false⟩, ⟨4, 3, true⟩], 7, 128, [.d (.v (.string ⟨#[]⟩)), .d (.v (.string ⟨#[]⟩)), .nil, .nil, .d (.v (.int .i64 0)), .d (.v (.string ⟨#[]⟩)), .nil]⟩ := by
  refine tiok_of (z := (.agg #[.string ⟨#[]⟩, .string ⟨#[]⟩, .slice none 0 0, .slice none 0 0, .int .i64 0, .string ⟨#[]⟩, .slice none 0 0] : Value)) (by kernel_rfl) (by kernel_rfl) (by kernel_rfl) (by simp [ZsOk, ZOk, sc, Value.cells]) rfl (by decide) ?_ ?_ ?_
  · exact fun h => (by cases h)
  · exact fun _ => ⟨_, rfl⟩
  · refine ⟨_, Try.underlying51, ?_⟩
    refine ⟨⟨rfl, by kernel_rfl, by decide, fun h => (by cases h), fun _ => ⟨rfl, _, Try.underlying9, fun q h => (by cases h), fun n e h => (by cases h)⟩, exists_of_isSome (by kernel_rfl)⟩, ?_⟩
    refine ⟨⟨rfl, by kernel_rfl, by decide, fun h => (by cases h), fun _ => ⟨rfl, _, Try.underlying9, fun q h => (by cases h), fun n e h => (by cases h)⟩, exists_of_isSome (by kernel_rfl)⟩, ?_⟩
    refine ⟨⟨rfl, by kernel_rfl, by decide, fun h => (by cases h), fun _ => ⟨rfl, _, Try.underlying26, fun q h => (by cases h), fun n e h => (by cases h)⟩, exists_of_isSome (by kernel_rfl)⟩, ?_⟩
    refine ⟨⟨rfl, by kernel_rfl, by decide, fun h => (by cases h), fun _ => ⟨rfl, _, Try.underlying26, fun q h => (by cases h), fun n e h => (by cases h)⟩, exists_of_isSome (by kernel_rfl)⟩, ?_⟩
    refine ⟨⟨rfl, by kernel_rfl, by decide, fun _ => ⟨_, Try.underlying24⟩, fun h => (by cases h), exists_of_isSome (by kernel_rfl)⟩, ?_⟩
    trivial
theorem tyOk52 : TIOk Try.prog 52 ⟨.st [⟨0, 1, false⟩, ⟨1, 1, false⟩, ⟨2, 1, false⟩, ⟨3, 1, false⟩, ⟨4, 3, true⟩], 7, 128, [.d (.v (.string ⟨#[]⟩)), .d (.v (.string ⟨#[]⟩)), .nil, .nil, .d (.v (.int .i64 0)), .d (.v (.string ⟨#[]⟩)), .nil]⟩ := by
  refine tiok_of (z := (.agg #[.string ⟨#[]⟩, .string ⟨#[]⟩, .slice none 0 0, .slice none 0 0, .int .i64 0, .string ⟨#[]⟩, .slice none 0 0] : Value)) (by kernel_rfl) (by kernel_rfl) (by kernel_rfl) (by simp [ZsOk, ZOk, sc, Value.cells]) rfl (by decide) ?_ ?_ ?_
  · exact fun h => (by cases h)
  · exact fun _ => ⟨_, rfl⟩
  · refine ⟨_, Try.underlying52, ?_⟩
    refine ⟨⟨rfl, by kernel_rfl, by decide, fun h => (by cases h), fun _ => ⟨rfl, _, Try.underlying9, fun q h => (by cases h), fun n e h => (by cases h)⟩, exists_of_isSome (by kernel_rfl)⟩, ?_⟩
    refine ⟨⟨rfl, by kernel_rfl, by decide, fun h => (by cases h), fun _ => ⟨rfl, _, Try.underlying9, fun q h => (by cases h), fun n e h => (by cases h)⟩, exists_of_isSome (by kernel_rfl)⟩, ?_⟩
    refine ⟨⟨rfl, by kernel_rfl, by decide, fun h => (by cases h), fun _ => ⟨rfl, _, Try.underlying26, fun q h => (by cases h), fun n e h => (by cases h)⟩, exists_of_isSome (by kernel_rfl)⟩, ?_⟩
    refine ⟨⟨rfl, by kernel_rfl, by decide, fun h => (by cases h), fun _ => ⟨rfl, _, Try.underlying26, fun q h => (by cases h), fun n e h => (by cases h)⟩, exists_of_isSome (by kernel_rfl)⟩, ?_⟩
    refine ⟨⟨rfl, by kernel_rfl, by decide, fun _ => ⟨_, Try.underlying24⟩, fun h => (by cases h), exists_of_isSome (by kernel_rfl)⟩, ?_⟩
    trivial
theorem tyOk55 : TIOk Try.prog 55 ⟨.st [⟨0, 1, false⟩, ⟨1, 1, false⟩, ⟨2, 1, false⟩, ⟨3, 1, false⟩, ⟨4, 3, true⟩], 7, 128, [.d (.v (.string ⟨#[]⟩)), .d (.v (.string ⟨#[]⟩)), .nil, .nil, .d (.v (.int .i64 0)), .d (.v (.string ⟨#[]⟩)), .nil]⟩ := by
  refine tiok_of (z := (.agg #[.string ⟨#[]⟩, .string ⟨#[]⟩, .slice none 0 0, .slice none 0 0, .int .i64 0, .string ⟨#[]⟩, .slice none 0 0] : Value)) (by kernel_rfl) (by kernel_rfl) (by kernel_rfl) (by simp [ZsOk, ZOk, sc, Value.cells]) rfl (by decide) ?_ ?_ ?_
  · exact fun h => (by cases h)
  · exact fun _ => ⟨_, rfl⟩
  · refine ⟨_, Try.underlying55, ?_⟩
    refine ⟨⟨rfl, by kernel_rfl, by decide, fun h => (by cases h), fun _ => ⟨rfl, _, Try.underlying9, fun q h => (by cases h), fun n e h => (by cases h)⟩, exists_of_isSome (by kernel_rfl)⟩, ?_⟩
    refine ⟨⟨rfl, by kernel_rfl, by decide, fun h => (by cases h), fun _ => ⟨rfl, _, Try.underlying9, fun q h => (by cases h), fun n e h => (by cases h)⟩, exists_of_isSome (by kernel_rfl)⟩, ?_⟩
    refine ⟨⟨rfl, by kernel_rfl, by decide, fun h => (by cases h), fun _ => ⟨rfl, _, Try.underlying26, fun q h => (by cases h), fun n e h => (by cases h)⟩, exists_of_isSome (by kernel_rfl)⟩, ?_⟩
    refine ⟨⟨rfl, by kernel_rfl, by decide, fun h => (by cases h), fun _ => ⟨rfl, _, Try.underlying26, fun q h => (by cases h), fun n e h => (by cases h)⟩, exists_of_isSome (by kernel_rfl)⟩, ?_⟩
    refine ⟨⟨rfl, by kernel_rfl, by decide, fun _ => ⟨_, Try.underlying30⟩, fun h => (by cases h), exists_of_isSome (by kernel_rfl)⟩, ?_⟩
    trivial
theorem tyOk56 : TIOk Try.prog 56 ⟨.st [⟨0, 1, false⟩, ⟨1, 1, false⟩, ⟨2, 1, false⟩, ⟨3, 1, false⟩, ⟨4, 3, true⟩], 7, 128, [.d (.v (.string ⟨#[]⟩)), .d (.v (.string ⟨#[]⟩)), .nil, .nil, .d (.v (.int .i64 0)), .d (.v (.string ⟨#[]⟩)), .nil]⟩ := by
  refine tiok_of (z := (.agg #[.string ⟨#[]⟩, .string ⟨#[]⟩, .slice none 0 0, .slice none 0 0, .int .i64 0, .string ⟨#[]⟩, .slice none 0 0] : Value)) (by kernel_rfl) (by kernel_rfl) (by kernel_rfl) (by simp [ZsOk, ZOk, sc, Value.cells]) rfl (by decide) ?_ ?_ ?_
  · exact fun h => (by cases h)
  · exact fun _ => ⟨_, rfl⟩
  · refine ⟨_, Try.underlying56, ?_⟩
    refine ⟨⟨rfl, by kernel_rfl, by decide, fun h => (by cases h), fun _ => ⟨rfl, _, Try.underlying9, fun q h => (by cases h), fun n e h => (by cases h)⟩, exists_of_isSome (by kernel_rfl)⟩, ?_⟩
    refine ⟨⟨rfl, by kernel_rfl, by decide, fun h => (by cases h), fun _ => ⟨rfl, _, Try.underlying9, fun q h => (by cases h), fun n e h => (by cases h)⟩, exists_of_isSome (by kernel_rfl)⟩, ?_⟩
    refine ⟨⟨rfl, by kernel_rfl, by decide, fun h => (by cases h), fun _ => ⟨rfl, _, Try.underlying26, fun q h => (by cases h), fun n e h => (by cases h)⟩, exists_of_isSome (by kernel_rfl)⟩, ?_⟩
    refine ⟨⟨rfl, by kernel_rfl, by decide, fun h => (by cases h), fun _ => ⟨rfl, _, Try.underlying26, fun q h => (by cases h), fun n e h => (by cases h)⟩, exists_of_isSome (by kernel_rfl)⟩, ?_⟩
    refine ⟨⟨rfl, by kernel_rfl, by decide, fun _ => ⟨_, Try.underlying30⟩, fun h => (by cases h), exists_of_isSome (by kernel_rfl)⟩, ?_⟩
    trivial
theorem tyOk61 : TIOk Try.prog 61 ⟨.slc 3, 1, 24, [.nil]⟩ := by
  refine tiok_of (z := (.slice none 0 0 : Value)) (by kernel_rfl) (by kernel_rfl) (by kernel_rfl) (by simp [ZsOk, ZOk, sc, Value.cells]) rfl (by decide) ?_ ?_ ?_
  · exact fun _ => ⟨_, rfl, rfl⟩
  · exact fun h => (by cases h)
  · exact ⟨rfl, Try.underlying61⟩
theorem tyOk62 : TIOk Try.prog 62 ⟨.slc 61, 1, 24, [.nil]⟩ := by
  refine tiok_of (z := (.slice none 0 0 : Value)) (by kernel_rfl) (by kernel_rfl) (by kernel_rfl) (by simp [ZsOk, ZOk, sc, Value.cells]) rfl (by decide) ?_ ?_ ?_
  · exact fun _ => ⟨_, rfl, rfl⟩
  · exact fun h => (by cases h)
  · exact ⟨rfl, Try.underlying62⟩
theorem tyOk63 : TIOk Try.prog 63 ⟨.st [⟨0, 1, false⟩, ⟨1, 1, false⟩, ⟨2, 1, false⟩, ⟨3, 1, false⟩, ⟨4, 1, false⟩, ⟨5, 1, false⟩, ⟨6, 1, false⟩], 7, 152, [.nil, .nil, .nil, .nil, .nil, .nil, .d (.v (.int .i64 0))]⟩ := by
  refine tiok_of (z := (.agg #[.slice none 0 0, .slice none 0 0, .slice none 0 0, .slice none 0 0, .slice none 0 0, .slice none 0 0, .int .i64 0] : Value)) (by kernel_rfl) (by kernel_rfl) (by kernel_rfl) (by simp [ZsOk, ZOk, sc, Value.cells]) rfl (by decide) ?_ ?_ ?_
  · exact fun h => (by cases h)
  · exact fun _ => ⟨_, rfl⟩
  · refine ⟨_, Try.underlying63, ?_⟩
    refine ⟨⟨rfl, by kernel_rfl, by decide, fun h => (by cases h), fun _ => ⟨rfl, _, Try.underlying26, fun q h => (by cases h), fun n e h => (by cases h)⟩, exists_of_isSome (by kernel_rfl)⟩, ?_⟩
    refine ⟨⟨rfl, by kernel_rfl, by decide, fun h => (by cases h), fun _ => ⟨rfl, _, Try.underlying61, fun q h => (by cases h), fun n e h => (by cases h)⟩, exists_of_isSome (by kernel_rfl)⟩, ?_⟩
    refine ⟨⟨rfl, by kernel_rfl, by decide, fun h => (by cases h), fun _ => ⟨rfl, _, Try.underlying62, fun q h => (by cases h), fun n e h => (by cases h)⟩, exists_of_isSome (by kernel_rfl)⟩, ?_⟩
    refine ⟨⟨rfl, by kernel_rfl, by decide, fun h => (by cases h), fun _ => ⟨rfl, _, Try.underlying26, fun q h => (by cases h), fun n e h => (by cases h)⟩, exists_of_isSome (by kernel_rfl)⟩, ?_⟩
    refine ⟨⟨rfl, by kernel_rfl, by decide, fun h => (by cases h), fun _ => ⟨rfl, _, Try.underlying62, fun q h => (by cases h), fun n e h => (by cases h)⟩, exists_of_isSome (by kernel_rfl)⟩, ?_⟩
    refine ⟨⟨rfl, by kernel_rfl, by decide, fun h => (by cases h), fun _ => ⟨rfl, _, Try.underlying61, fun q h => (by cases h), fun n e h => (by cases h)⟩, exists_of_isSome (by kernel_rfl)⟩, ?_⟩
    refine ⟨⟨rfl, by kernel_rfl, by decide, fun h => (by cases h), fun _ => ⟨rfl, _, Try.underlying3, fun q h => (by cases h), fun n e h => (by cases h)⟩, exists_of_isSome (by kernel_rfl)⟩, ?_⟩
    trivial
theorem tyOk64 : TIOk Try.prog 64 ⟨.st [⟨0, 1, false⟩, ⟨1, 1, false⟩, ⟨2, 1, false⟩, ⟨3, 1, false⟩, ⟨4, 1, false⟩, ⟨5, 1, false⟩, ⟨6, 1, false⟩], 7, 152, [.nil, .nil, .nil, .nil, .nil, .nil, .d (.v (.int .i64 0))]⟩ := by
  refine tiok_of (z := (.agg #[.slice none 0 0, .slice none 0 0, .slice none 0 0, .slice none 0 0, .slice none 0 0, .slice none 0 0, .int .i64 0] : Value)) (by kernel_rfl) (by kernel_rfl) (by kernel_rfl) (by simp [ZsOk, ZOk, sc, Value.cells]) rfl (by decide) ?_ ?_ ?_
  · exact fun h => (by cases h)
  · exact fun _ => ⟨_, rfl⟩
  · refine ⟨_, Try.underlying64, ?_⟩
    refine ⟨⟨rfl, by kernel_rfl, by decide, fun h => (by cases h), fun _ => ⟨rfl, _, Try.underlying26, fun q h => (by cases h), fun n e h => (by cases h)⟩, exists_of_isSome (by kernel_rfl)⟩, ?_⟩
    refine ⟨⟨rfl, by kernel_rfl, by decide, fun h => (by cases h), fun _ => ⟨rfl, _, Try.underlying61, fun q h => (by cases h), fun n e h => (by cases h)⟩, exists_of_isSome (by kernel_rfl)⟩, ?_⟩
    refine ⟨⟨rfl, by kernel_rfl, by decide, fun h => (by cases h), fun _ => ⟨rfl, _, Try.underlying62, fun q h => (by cases h), fun n e h => (by cases h)⟩, exists_of_isSome (by kernel_rfl)⟩, ?_⟩
    refine ⟨⟨rfl, by kernel_rfl, by decide, fun h => (by cases h), fun _ => ⟨rfl, _, Try.underlying26, fun q h => (by cases h), fun n e h => (by cases h)⟩, exists_of_isSome (by kernel_rfl)⟩, ?_⟩
    refine ⟨⟨rfl, by kernel_rfl, by decide, fun h => (by cases h), fun _ => ⟨rfl, _, Try.underlying62, fun q h => (by cases h), fun n e h => (by cases h)⟩, exists_of_isSome (by kernel_rfl)⟩, ?_⟩
    refine ⟨⟨rfl, by kernel_rfl, by decide, fun h => (by cases h), fun _ => ⟨rfl, _, Try.underlying61, fun q h => (by cases h), fun n e h => (by cases h)⟩, exists_of_isSome (by kernel_rfl)⟩, ?_⟩
    refine ⟨⟨rfl, by kernel_rfl, by decide, fun h => (by cases h), fun _ => ⟨rfl, _, Try.underlying3, fun q h => (by cases h), fun n e h => (by cases h)⟩, exists_of_isSome (by kernel_rfl)⟩, ?_⟩
    trivial
theorem tyOk67 : TIOk Try.prog 67 ⟨.st [⟨0, 1, false⟩, ⟨1, 1, false⟩, ⟨2, 1, false⟩, ⟨3, 1, false⟩, ⟨4, 1, false⟩, ⟨5, 1, false⟩, ⟨6, 1, false⟩], 7, 152, [.nil, .nil, .nil, .nil, .nil, .nil, .d (.v (.int .i64 0))]⟩ := by
  refine tiok_of (z := (.agg #[.slice none 0 0, .slice none 0 0, .slice none 0 0, .slice none 0 0, .slice none 0 0, .slice none 0 0, .int .i64 0] : Value)) (by kernel_rfl) (by kernel_rfl) (by kernel_rfl) (by simp [ZsOk, ZOk, sc, Value.cells]) rfl (by decide) ?_ ?_ ?_
  · exact fun h => (by cases h)
  · exact fun _ => ⟨_, rfl⟩
  · refine ⟨_, Try.underlying67, ?_⟩
    refine ⟨⟨rfl, by kernel_rfl, by decide, fun h => (by cases h), fun _ => ⟨rfl, _, Try.underlying26, fun q h => (by cases h), fun n e h => (by cases h)⟩, exists_of_isSome (by kernel_rfl)⟩, ?_⟩
    refine ⟨⟨rfl, by kernel_rfl, by decide, fun h => (by cases h), fun _ => ⟨rfl, _, Try.underlying61, fun q h => (by cases h), fun n e h => (by cases h)⟩, exists_of_isSome (by kernel_rfl)⟩, ?_⟩
    refine ⟨⟨rfl, by kernel_rfl, by decide, fun h => (by cases h), fun _ => ⟨rfl, _, Try.underlying62, fun q h => (by cases h), fun n e h => (by cases h)⟩, exists_of_isSome (by kernel_rfl)⟩, ?_⟩
    refine ⟨⟨rfl, by kernel_rfl, by decide, fun h => (by cases h), fun _ => ⟨rfl, _, Try.underlying26, fun q h => (by cases h), fun n e h => (by cases h)⟩, exists_of_isSome (by kernel_rfl)⟩, ?_⟩
    refine ⟨⟨rfl, by kernel_rfl, by decide, fun h => (by cases h), fun _ => ⟨rfl, _, Try.underlying62, fun q h => (by cases h), fun n e h => (by cases h)⟩, exists_of_isSome (by kernel_rfl)⟩, ?_⟩
    refine ⟨⟨rfl, by kernel_rfl, by decide, fun h => (by cases h), fun _ => ⟨rfl, _, Try.underlying61, fun q h => (by cases h), fun n e h => (by cases h)⟩, exists_of_isSome (by kernel_rfl)⟩, ?_⟩
    refine ⟨⟨rfl, by kernel_rfl, by decide, fun h => (by cases h), fun _ => ⟨rfl, _, Try.underlying3, fun q h => (by cases h), fun n e h => (by cases h)⟩, exists_of_isSome (by kernel_rfl)⟩, ?_⟩
    trivial
theorem tyOk75 : TIOk Try.prog 75 ⟨.slc 131, 1, 24, [.nil]⟩ := by
  refine tiok_of (z := (.slice none 0 0 : Value)) (by kernel_rfl) (by kernel_rfl) (by kernel_rfl) (by simp [ZsOk, ZOk, sc, Value.cells]) rfl (by decide) ?_ ?_ ?_
  · exact fun _ => ⟨_, rfl, rfl⟩
  · exact fun h => (by cases h)
  · exact ⟨rfl, Try.underlying75⟩
theorem tyOk76 : TIOk Try.prog 76 ⟨.st [⟨0, 1, false⟩], 1, 24, [.nil]⟩ := by
  refine tiok_of (z := (.agg #[.slice none 0 0] : Value)) (by kernel_rfl) (by kernel_rfl) (by kernel_rfl) (by simp [ZsOk, ZOk, sc, Value.cells]) rfl (by decide) ?_ ?_ ?_
  · exact fun h => (by cases h)
  · exact fun _ => ⟨_, rfl⟩
  · refine ⟨_, Try.underlying76, ?_⟩
    refine ⟨⟨rfl, by kernel_rfl, by decide, fun h => (by cases h), fun _ => ⟨rfl, _, Try.underlying75, fun q h => (by cases h), fun n e h => (by cases h)⟩, exists_of_isSome (by kernel_rfl)⟩, ?_⟩
    trivial
theorem tyOk77 : TIOk Try.prog 77 ⟨.st [⟨0, 1, false⟩], 1, 24, [.nil]⟩ := by
  refine tiok_of (z := (.agg #[.slice none 0 0] : Value)) (by kernel_rfl) (by kernel_rfl) (by kernel_rfl) (by simp [ZsOk, ZOk, sc, Value.cells]) rfl (by decide) ?_ ?_ ?_
  · exact fun h => (by cases h)
  · exact fun _ => ⟨_, rfl⟩
  · refine ⟨_, Try.underlying77, ?_⟩
    refine ⟨⟨rfl, by kernel_rfl, by decide, fun h => (by cases h), fun _ => ⟨rfl, _, Try.underlying75, fun q h => (by cases h), fun n e h => (by cases h)⟩, exists_of_isSome (by kernel_rfl)⟩, ?_⟩
    trivial
theorem tyOk80 : TIOk Try.prog 80 ⟨.slc 114, 1, 24, [.nil]⟩ := by
  refine tiok_of (z := (.slice none 0 0 : Value)) (by kernel_rfl) (by kernel_rfl) (by kernel_rfl) (by simp [ZsOk, ZOk, sc, Value.cells]) rfl (by decide) ?_ ?_ ?_
  · exact fun _ => ⟨_, rfl, rfl⟩
  · exact fun h => (by cases h)
  · exact ⟨rfl, Try.underlying80⟩
theorem tyOk81 : TIOk Try.prog 81 ⟨.st [⟨0, 1, false⟩], 1, 24, [.nil]⟩ := by
  refine tiok_of (z := (.agg #[.slice none 0 0] : Value)) (by kernel_rfl) (by kernel_rfl) (by kernel_rfl) (by simp [ZsOk, ZOk, sc, Value.cells]) rfl (by decide) ?_ ?_ ?_
  · exact fun h => (by cases h)
  · exact fun _ => ⟨_, rfl⟩
  · refine ⟨_, Try.underlying81, ?_⟩
    refine ⟨⟨rfl, by kernel_rfl, by decide, fun h => (by cases h), fun _ => ⟨rfl, _, Try.underlying80, fun q h => (by cases h), fun n e h => (by cases h)⟩, exists_of_isSome (by kernel_rfl)⟩, ?_⟩
    trivial
theorem tyOk82 : TIOk Try.prog 82 ⟨.st [⟨0, 1, false⟩], 1, 24, [.nil]⟩ := by
  refine tiok_of (z := (.agg #[.slice none 0 0] : Value)) (by kernel_rfl) (by kernel_rfl) (by kernel_rfl) (by simp [ZsOk, ZOk, sc, Value.cells]) rfl (by decide) ?_ ?_ ?_
  · exact fun h => (by cases h)
  · exact fun _ => ⟨_, rfl⟩
  · refine ⟨_, Try.underlying82, ?_⟩
    refine ⟨⟨rfl, by kernel_rfl, by decide, fun h => (by cases h), fun _ => ⟨rfl, _, Try.underlying80, fun q h => (by cases h), fun n e h => (by cases h)⟩, exists_of_isSome (by kernel_rfl)⟩, ?_⟩
    trivial
theorem tyOk112 : TIOk Try.prog 112 ⟨.slc 141, 1, 24, [.nil]⟩ := by
  refine tiok_of (z := (.slice none 0 0 : Value)) (by kernel_rfl) (by kernel_rfl) (by kernel_rfl) (by simp [ZsOk, ZOk, sc, Value.cells]) rfl (by decide) ?_ ?_ ?_
  · exact fun _ => ⟨_, rfl, rfl⟩
  · exact fun h => (by cases h)
  · exact ⟨rfl, Try.underlying112⟩
theorem tyOk113 : TIOk Try.prog 113 ⟨.st [⟨0, 1, false⟩, ⟨1, 3, true⟩, ⟨4, 1, false⟩, ⟨5, 1, false⟩, ⟨6, 1, false⟩, ⟨7, 1, false⟩, ⟨8, 1, false⟩, ⟨9, 1, false⟩, ⟨10, 1, false⟩], 11, 176, [.d (.v (.int .i64 0)), .d (.v (.int .i64 0)), .d (.v (.string ⟨#[]⟩)), .nil, .d (.v (.int .i64 0)), .nil, .d (.v (.string ⟨#[]⟩)), .d (.v (.string ⟨#[]⟩)), .nil, .nil, .d (.v (.int .i64 0))]⟩ := by
  refine tiok_of (z := (.agg #[.int .i64 0, .int .i64 0, .string ⟨#[]⟩, .slice none 0 0, .int .i64 0, .slice none 0 0, .string ⟨#[]⟩, .string ⟨#[]⟩, .slice none 0 0, .slice none 0 0, .int .i64 0] : Value)) (by kernel_rfl) (by kernel_rfl) (by kernel_rfl) (by simp [ZsOk, ZOk, sc, Value.cells]) rfl (by decide) ?_ ?_ ?_
  · exact fun h => (by cases h)
  · exact fun _ => ⟨_, rfl⟩
  · refine ⟨_, Try.underlying113, ?_⟩
    refine ⟨⟨rfl, by kernel_rfl, by decide, fun h => (by cases h), fun _ => ⟨rfl, _, Try.underlying3, fun q h => (by cases h), fun n e h => (by cases h)⟩, exists_of_isSome (by kernel_rfl)⟩, ?_⟩
    refine ⟨⟨rfl, by kernel_rfl, by decide, fun _ => ⟨_, Try.underlying30⟩, fun h => (by cases h), exists_of_isSome (by kernel_rfl)⟩, ?_⟩
    refine ⟨⟨rfl, by kernel_rfl, by decide, fun h => (by cases h), fun _ => ⟨rfl, _, Try.underlying3, fun q h => (by cases h), fun n e h => (by cases h)⟩, exists_of_isSome (by kernel_rfl)⟩, ?_⟩
    refine ⟨⟨rfl, by kernel_rfl, by decide, fun h => (by cases h), fun _ => ⟨rfl, _, Try.underlying61, fun q h => (by cases h), fun n e h => (by cases h)⟩, exists_of_isSome (by kernel_rfl)⟩, ?_⟩
    refine ⟨⟨rfl, by kernel_rfl, by decide, fun h => (by cases h), fun _ => ⟨rfl, _, Try.underlying9, fun q h => (by cases h), fun n e h => (by cases h)⟩, exists_of_isSome (by kernel_rfl)⟩, ?_⟩
    refine ⟨⟨rfl, by kernel_rfl, by decide, fun h => (by cases h), fun _ => ⟨rfl, _, Try.underlying9, fun q h => (by cases h), fun n e h => (by cases h)⟩, exists_of_isSome (by kernel_rfl)⟩, ?_⟩
    refine ⟨⟨rfl, by kernel_rfl, by decide, fun h => (by cases h), fun _ => ⟨rfl, _, Try.underlying26, fun q h => (by cases h), fun n e h => (by cases h)⟩, exists_of_isSome (by kernel_rfl)⟩, ?_⟩
    refine ⟨⟨rfl, by kernel_rfl, by decide, fun h => (by cases h), fun _ => ⟨rfl, _, Try.underlying112, fun q h => (by cases h), fun n e h => (by cases h)⟩, exists_of_isSome (by kernel_rfl)⟩, ?_⟩
    refine ⟨⟨rfl, by kernel_rfl, by decide, fun h => (by cases h), fun _ => ⟨rfl, _, Try.underlying3, fun q h => (by cases h), fun n e h => (by cases h)⟩, exists_of_isSome (by kernel_rfl)⟩, ?_⟩
    trivial
theorem tyOk114 : TIOk Try.prog 114 ⟨.st [⟨0, 1, false⟩, ⟨1, 3, true⟩, ⟨4, 1, false⟩, ⟨5, 1, false⟩, ⟨6, 1, false⟩, ⟨7, 1, false⟩, ⟨8, 1, false⟩, ⟨9, 1, false⟩, ⟨10, 1, false⟩], 11, 176, [.d (.v (.int .i64 0)), .d (.v (.int .i64 0)), .d (.v (.string ⟨#[]⟩)), .nil, .d (.v (.int .i64 0)), .nil, .d (.v (.string ⟨#[]⟩)), .d (.v (.string ⟨#[]⟩)), .nil, .nil, .d (.v (.int .i64 0))]⟩ := by
  refine tiok_of (z := (.agg #[.int .i64 0, .int .i64 0, .string ⟨#[]⟩, .slice none 0 0, .int .i64 0, .slice none 0 0, .string ⟨#[]⟩, .string ⟨#[]⟩, .slice none 0 0, .slice none 0 0, .int .i64 0] : Value)) (by kernel_rfl) (by kernel_rfl) (by kernel_rfl) (by simp [ZsOk, ZOk, sc, Value.cells]) rfl (by decide) ?_ ?_ ?_
  · exact fun h => (by cases h)
  · exact fun _ => ⟨_, rfl⟩
  · refine ⟨_, Try.underlying114, ?_⟩
    refine ⟨⟨rfl, by kernel_rfl, by decide, fun h => (by cases h), fun _ => ⟨rfl, _, Try.underlying3, fun q h => (by cases h), fun n e h => (by cases h)⟩, exists_of_isSome (by kernel_rfl)⟩, ?_⟩
    refine ⟨⟨rfl, by kernel_rfl, by decide, fun _ => ⟨_, Try.underlying30⟩, fun h => (by cases h), exists_of_isSome (by kernel_rfl)⟩, ?_⟩
    refine ⟨⟨rfl, by kernel_rfl, by decide, fun h => (by cases h), fun _ => ⟨rfl, _, Try.underlying3, fun q h => (by cases h), fun n e h => (by cases h)⟩, exists_of_isSome (by kernel_rfl)⟩, ?_⟩
    refine ⟨⟨rfl, by kernel_rfl, by decide, fun h => (by cases h), fun _ => ⟨rfl, _, Try.underlying61, fun q h => (by cases h), fun n e h => (by cases h)⟩, exists_of_isSome (by kernel_rfl)⟩, ?_⟩
    refine ⟨⟨rfl, by kernel_rfl, by decide, fun h => (by cases h), fun _ => ⟨rfl, _, Try.underlying9, fun q h => (by cases h), fun n e h => (by cases h)⟩, exists_of_isSome (by kernel_rfl)⟩, ?_⟩
    refine ⟨⟨rfl, by kernel_rfl, by decide, fun h => (by cases h), fun _ => ⟨rfl, _, Try.underlying9, fun q h => (by cases h), fun n e h => (by cases h)⟩, exists_of_isSome (by kernel_rfl)⟩, ?_⟩
    refine ⟨⟨rfl, by kernel_rfl, by decide, fun h => (by cases h), fun _ => ⟨rfl, _, Try.underlying26, fun q h => (by cases h), fun n e h => (by cases h)⟩, exists_of_isSome (by kernel_rfl)⟩, ?_⟩
    refine ⟨⟨rfl, by kernel_rfl, by decide, fun h => (by cases h), fun _ => ⟨rfl, _, Try.underlying112, fun q h => (by cases h), fun n e h => (by cases h)⟩, exists_of_isSome (by kernel_rfl)⟩, ?_⟩
    refine ⟨⟨rfl, by kernel_rfl, by decide, fun h => (by cases h), fun _ => ⟨rfl, _, Try.underlying3, fun q h => (by cases h), fun n e h => (by cases h)⟩, exists_of_isSome (by kernel_rfl)⟩, ?_⟩
    trivial
theorem tyOk122 : TIOk Try.prog 122 ⟨.slc 5, 1, 24, [.nil]⟩ := by
  refine tiok_of (z := (.slice none 0 0 : Value)) (by kernel_rfl) (by kernel_rfl) (by kernel_rfl) (by simp [ZsOk, ZOk, sc, Value.cells]) rfl (by decide) ?_ ?_ ?_
  · exact fun _ => ⟨_, rfl, rfl⟩
  · exact fun h => (by cases h)
  · exact ⟨rfl, Try.underlying122⟩
theorem tyOk124 : TIOk Try.prog 124 ⟨.slc 26, 1, 24, [.nil]⟩ := by
  refine tiok_of (z := (.slice none 0 0 : Value)) (by kernel_rfl) (by kernel_rfl) (by kernel_rfl) (by simp [ZsOk, ZOk, sc, Value.cells]) rfl (by decide) ?_ ?_ ?_
  · exact fun _ => ⟨_, rfl, rfl⟩
  · exact fun h => (by cases h)
  · exact ⟨rfl, Try.underlying124⟩
theorem tyOk129 : TIOk Try.prog 129 ⟨.slc 144, 1, 24, [.nil]⟩ := by
  refine tiok_of (z := (.slice none 0 0 : Value)) (by kernel_rfl) (by kernel_rfl) (by kernel_rfl) (by simp [ZsOk, ZOk, sc, Value.cells]) rfl (by decide) ?_ ?_ ?_
  · exact fun _ => ⟨_, rfl, rfl⟩
  · exact fun h => (by cases h)
  · exact ⟨rfl, Try.underlying129⟩
theorem tyOk130 : TIOk Try.prog 130 ⟨.st [⟨0, 1, false⟩, ⟨1, 3, true⟩, ⟨4, 1, false⟩, ⟨5, 1, false⟩, ⟨6, 1, false⟩, ⟨7, 1, false⟩, ⟨8, 1, false⟩, ⟨9, 1, false⟩, ⟨10, 1, false⟩], 11, 176, [.d (.v (.int .i64 0)), .d (.v (.int .i64 0)), .d (.v (.string ⟨#[]⟩)), .nil, .d (.v (.int .i64 0)), .nil, .d (.v (.string ⟨#[]⟩)), .d (.v (.string ⟨#[]⟩)), .nil, .nil, .d (.v (.int .i64 0))]⟩ := by
  refine tiok_of (z := (.agg #[.int .i64 0, .int .i64 0, .string ⟨#[]⟩, .slice none 0 0, .int .i64 0, .slice none 0 0, .string ⟨#[]⟩, .string ⟨#[]⟩, .slice none 0 0, .slice none 0 0, .int .i64 0] : Value)) (by kernel_rfl) (by kernel_rfl) (by kernel_rfl) (by simp [ZsOk, ZOk, sc, Value.cells]) rfl (by decide) ?_ ?_ ?_
  · exact fun h => (by cases h)
  · exact fun _ => ⟨_, rfl⟩
  · refine ⟨_, Try.underlying130, ?_⟩
    refine ⟨⟨rfl, by kernel_rfl, by decide, fun h => (by cases h), fun _ => ⟨rfl, _, Try.underlying3, fun q h => (by cases h), fun n e h => (by cases h)⟩, exists_of_isSome (by kernel_rfl)⟩, ?_⟩
    refine ⟨⟨rfl, by kernel_rfl, by decide, fun _ => ⟨_, Try.underlying24⟩, fun h => (by cases h), exists_of_isSome (by kernel_rfl)⟩, ?_⟩
    refine ⟨⟨rfl, by kernel_rfl, by decide, fun h => (by cases h), fun _ => ⟨rfl, _, Try.underlying3, fun q h => (by cases h), fun n e h => (by cases h)⟩, exists_of_isSome (by kernel_rfl)⟩, ?_⟩
    refine ⟨⟨rfl, by kernel_rfl, by decide, fun h => (by cases h), fun _ => ⟨rfl, _, Try.underlying61, fun q h => (by cases h), fun n e h => (by cases h)⟩, exists_of_isSome (by kernel_rfl)⟩, ?_⟩
    refine ⟨⟨rfl, by kernel_rfl, by decide, fun h => (by cases h), fun _ => ⟨rfl, _, Try.underlying9, fun q h => (by cases h), fun n e h => (by cases h)⟩, exists_of_isSome (by kernel_rfl)⟩, ?_⟩
    refine ⟨⟨rfl, by kernel_rfl, by decide, fun h => (by cases h), fun _ => ⟨rfl, _, Try.underlying9, fun q h => (by cases h), fun n e h => (by cases h)⟩, exists_of_isSome (by kernel_rfl)⟩, ?_⟩
    refine ⟨⟨rfl, by kernel_rfl, by decide, fun h => (by cases h), fun _ => ⟨rfl, _, Try.underlying26, fun q h => (by cases h), fun n e h => (by cases h)⟩, exists_of_isSome (by kernel_rfl)⟩, ?_⟩
    refine ⟨⟨rfl, by kernel_rfl, by decide, fun h => (by cases h), fun _ => ⟨rfl, _, Try.underlying129, fun q h => (by cases h), fun n e h => (by cases h)⟩, exists_of_isSome (by kernel_rfl)⟩, ?_⟩
    refine ⟨⟨rfl, by kernel_rfl, by decide, fun h => (by cases h), fun _ => ⟨rfl, _, Try.underlying3, fun q h => (by cases h), fun n e h => (by cases h)⟩, exists_of_isSome (by kernel_rfl)⟩, ?_⟩
    trivial
theorem tyOk131 : TIOk Try.prog 131 ⟨.st [⟨0, 1, false⟩, ⟨1, 3, true⟩, ⟨4, 1, false⟩, ⟨5, 1, false⟩, ⟨6, 1, false⟩, ⟨7, 1, false⟩, ⟨8, 1, false⟩, ⟨9, 1, false⟩, ⟨10, 1, false⟩], 11, 176, [.d (.v (.int .i64 0)), .d (.v (.int .i64 0)), .d (.v (.string ⟨#[]⟩)), .nil, .d (.v (.int .i64 0)), .nil, .d (.v (.string ⟨#[]⟩)), .d (.v (.string ⟨#[]⟩)), .nil, .nil, .d (.v (.int .i64 0))]⟩ := by
  refine tiok_of (z := (.agg #[.int .i64 0, .int .i64 0, .string ⟨#[]⟩, .slice none 0 0, .int .i64 0, .slice none 0 0, .string ⟨#[]⟩, .string ⟨#[]⟩, .slice none 0 0, .slice none 0 0, .int .i64 0] : Value)) (by kernel_rfl) (by kernel_rfl) (by kernel_rfl) (by simp [ZsOk, ZOk, sc, Value.cells]) rfl (by decide) ?_ ?_ ?_
  · exact fun h => (by cases h)
  · exact fun _ => ⟨_, rfl⟩
  · refine ⟨_, Try.underlying131, ?_⟩
    refine ⟨⟨rfl, by kernel_rfl, by decide, fun h => (by cases h), fun _ => ⟨rfl, _, Try.underlying3, fun q h => (by cases h), fun n e h => (by cases h)⟩, exists_of_isSome (by kernel_rfl)⟩, ?_⟩
    refine ⟨⟨rfl, by kernel_rfl, by decide, fun _ => ⟨_, Try.underlying24⟩, fun h => (by cases h), exists_of_isSome (by kernel_rfl)⟩, ?_⟩
    refine ⟨⟨rfl, by kernel_rfl, by decide, fun h => (by cases h), fun _ => ⟨rfl, _, Try.underlying3, fun q h => (by cases h), fun n e h => (by cases h)⟩, exists_of_isSome (by kernel_rfl)⟩, ?_⟩
    refine ⟨⟨rfl, by kernel_rfl, by decide, fun h => (by cases h), fun _ => ⟨rfl, _, Try.underlying61, fun q h => (by cases h), fun n e h => (by cases h)⟩, exists_of_isSome (by kernel_rfl)⟩, ?_⟩
    refine ⟨⟨rfl, by kernel_rfl, by decide, fun h => (by cases h), fun _ => ⟨rfl, _, Try.underlying9, fun q h => (by cases h), fun n e h => (by cases h)⟩, exists_of_isSome (by kernel_rfl)⟩, ?_⟩
    refine ⟨⟨rfl, by kernel_rfl, by decide, fun h => (by cases h), fun _ => ⟨rfl, _, Try.underlying9, fun q h => (by cases h), fun n e h => (by cases h)⟩, exists_of_isSome (by kernel_rfl)⟩, ?_⟩
    refine ⟨⟨rfl, by kernel_rfl, by decide, fun h => (by cases h), fun _ => ⟨rfl, _, Try.underlying26, fun q h => (by cases h), fun n e h => (by cases h)⟩, exists_of_isSome (by kernel_rfl)⟩, ?_⟩
    refine ⟨⟨rfl, by kernel_rfl, by decide, fun h => (by cases h), fun _ => ⟨rfl, _, Try.underlying129, fun q h => (by cases h), fun n e h => (by cases h)⟩, exists_of_isSome (by kernel_rfl)⟩, ?_⟩
    refine ⟨⟨rfl, by kernel_rfl, by decide, fun h => (by cases h), fun _ => ⟨rfl, _, Try.underlying3, fun q h => (by cases h), fun n e h => (by cases h)⟩, exists_of_isSome (by kernel_rfl)⟩, ?_⟩
    trivial
theorem tyOk140 : TIOk Try.prog 140 ⟨.st [⟨0, 1, false⟩, ⟨1, 3, true⟩], 4, 64, [.d (.v (.string ⟨#[]⟩)), .d (.v (.int .i64 0)), .d (.v (.string ⟨#[]⟩)), .nil]⟩ := by
  refine tiok_of (z := (.agg #[.string ⟨#[]⟩, .int .i64 0, .string ⟨#[]⟩, .slice none 0 0] : Value)) (by kernel_rfl) (by kernel_rfl) (by kernel_rfl) (by simp [ZsOk, ZOk, sc, Value.cells]) rfl (by decide) ?_ ?_ ?_
  · exact fun h => (by cases h)
  · exact fun _ => ⟨_, rfl⟩
  · refine ⟨_, Try.underlying140, ?_⟩
    refine ⟨⟨rfl, by kernel_rfl, by decide, fun h => (by cases h), fun _ => ⟨rfl, _, Try.underlying9, fun q h => (by cases h), fun n e h => (by cases h)⟩, exists_of_isSome (by kernel_rfl)⟩, ?_⟩
    refine ⟨⟨rfl, by kernel_rfl, by decide, fun _ => ⟨_, Try.underlying30⟩, fun h => (by cases h), exists_of_isSome (by kernel_rfl)⟩, ?_⟩
    trivial
theorem tyOk141 : TIOk Try.prog 141 ⟨.st [⟨0, 1, false⟩, ⟨1, 3, true⟩], 4, 64, [.d (.v (.string ⟨#[]⟩)), .d (.v (.int .i64 0)), .d (.v (.string ⟨#[]⟩)), .nil]⟩ := by
  refine tiok_of (z := (.agg #[.string ⟨#[]⟩, .int .i64 0, .string ⟨#[]⟩, .slice none 0 0] : Value)) (by kernel_rfl) (by kernel_rfl) (by kernel_rfl) (by simp [ZsOk, ZOk, sc, Value.cells]) rfl (by decide) ?_ ?_ ?_
  · exact fun h => (by cases h)
  · exact fun _ => ⟨_, rfl⟩
  · refine ⟨_, Try.underlying141, ?_⟩
    refine ⟨⟨rfl, by kernel_rfl, by decide, fun h => (by cases h), fun _ => ⟨rfl, _, Try.underlying9, fun q h => (by cases h), fun n e h => (by cases h)⟩, exists_of_isSome (by kernel_rfl)⟩, ?_⟩
    refine ⟨⟨rfl, by kernel_rfl, by decide, fun _ => ⟨_, Try.underlying30⟩, fun h => (by cases h), exists_of_isSome (by kernel_rfl)⟩, ?_⟩
    trivial
theorem tyOk143 : TIOk Try.prog 143 ⟨.st [⟨0, 1, false⟩, ⟨1, 3, true⟩], 4, 64, [.d (.v (.string ⟨#[]⟩)), .d (.v (.int .i64 0)), .d (.v (.string ⟨#[]⟩)), .nil]⟩ := by
  refine tiok_of (z := (.agg #[.string ⟨#[]⟩, .int .i64 0, .string ⟨#[]⟩, .slice none 0 0] : Value)) (by kernel_rfl) (by kernel_rfl) (by kernel_rfl) (by simp [ZsOk, ZOk, sc, Value.cells]) rfl (by decide) ?_ ?_ ?_
  · exact fun h => (by cases h)
  · exact fun _ => ⟨_, rfl⟩
  · refine ⟨_, Try.underlying143, ?_⟩
    refine ⟨⟨rfl, by kernel_rfl, by decide, fun h => (by cases h), fun _ => ⟨rfl, _, Try.underlying9, fun q h => (by cases h), fun n e h => (by cases h)⟩, exists_of_isSome (by kernel_rfl)⟩, ?_⟩
    refine ⟨⟨rfl, by kernel_rfl, by decide, fun _ => ⟨_, Try.underlying24⟩, fun h => (by cases h), exists_of_isSome (by kernel_rfl)⟩, ?_⟩
    trivial
theorem tyOk144 : TIOk Try.prog 144 ⟨.st [⟨0, 1, false⟩, ⟨1, 3, true⟩], 4, 64, [.d (.v (.string ⟨#[]⟩)), .d (.v (.int .i64 0)), .d (.v (.string ⟨#[]⟩)), .nil]⟩ := by
  refine tiok_of (z := (.agg #[.string ⟨#[]⟩, .int .i64 0, .string ⟨#[]⟩, .slice none 0 0] : Value)) (by kernel_rfl) (by kernel_rfl) (by kernel_rfl) (by simp [ZsOk, ZOk, sc, Value.cells]) rfl (by decide) ?_ ?_ ?_
  · exact fun h => (by cases h)
  · exact fun _ => ⟨_, rfl⟩
  · refine ⟨_, Try.underlying144, ?_⟩
    refine ⟨⟨rfl, by kernel_rfl, by decide, fun h => (by cases h), fun _ => ⟨rfl, _, Try.underlying9, fun q h => (by cases h), fun n e h => (by cases h)⟩, exists_of_isSome (by kernel_rfl)⟩, ?_⟩
    refine ⟨⟨rfl, by kernel_rfl, by decide, fun _ => ⟨_, Try.underlying24⟩, fun h => (by cases h), exists_of_isSome (by kernel_rfl)⟩, ?_⟩
    trivial
theorem tyOk148 : TIOk Try.prog 148 ⟨.st [⟨0, 1, false⟩, ⟨1, 1, false⟩, ⟨2, 1, false⟩, ⟨3, 1, false⟩], 4, 40, [.d (.v (.pointer none)), .d (.v (.pointer none)), .d (.v (.pointer none)), .d (.v (.string ⟨#[]⟩))]⟩ := by
  refine tiok_of (z := (.agg #[.pointer none, .pointer none, .pointer none, .string ⟨#[]⟩] : Value)) (by kernel_rfl) (by kernel_rfl) (by kernel_rfl) (by simp [ZsOk, ZOk, sc, Value.cells]) rfl (by decide) ?_ ?_ ?_
  · exact fun h => (by cases h)
  · exact fun _ => ⟨_, rfl⟩
  · refine ⟨_, Try.underlying148, ?_⟩
    refine ⟨⟨rfl, by kernel_rfl, by decide, fun h => (by cases h), fun _ => ⟨rfl, _, Try.underlying17, fun q h => (by cases h), fun n e h => (by cases h)⟩, exists_of_isSome (by kernel_rfl)⟩, ?_⟩
    refine ⟨⟨rfl, by kernel_rfl, by decide, fun h => (by cases h), fun _ => ⟨rfl, _, Try.underlying17, fun q h => (by cases h), fun n e h => (by cases h)⟩, exists_of_isSome (by kernel_rfl)⟩, ?_⟩
    refine ⟨⟨rfl, by kernel_rfl, by decide, fun h => (by cases h), fun _ => ⟨rfl, _, Try.underlying17, fun q h => (by cases h), fun n e h => (by cases h)⟩, exists_of_isSome (by kernel_rfl)⟩, ?_⟩
    refine ⟨⟨rfl, by kernel_rfl, by decide, fun h => (by cases h), fun _ => ⟨rfl, _, Try.underlying9, fun q h => (by cases h), fun n e h => (by cases h)⟩, exists_of_isSome (by kernel_rfl)⟩, ?_⟩
    trivial
theorem tyOk149 : TIOk Try.prog 149 ⟨.st [⟨0, 1, false⟩, ⟨1, 1, false⟩, ⟨2, 1, false⟩, ⟨3, 1, false⟩], 4, 40, [.d (.v (.pointer none)), .d (.v (.pointer none)), .d (.v (.pointer none)), .d (.v (.string ⟨#[]⟩))]⟩ := by
  refine tiok_of (z := (.agg #[.pointer none, .pointer none, .pointer none, .string ⟨#[]⟩] : Value)) (by kernel_rfl) (by kernel_rfl) (by kernel_rfl) (by simp [ZsOk, ZOk, sc, Value.cells]) rfl (by decide) ?_ ?_ ?_
  · exact fun h => (by cases h)
  · exact fun _ => ⟨_, rfl⟩
  · refine ⟨_, Try.underlying149, ?_⟩
    refine ⟨⟨rfl, by kernel_rfl, by decide, fun h => (by cases h), fun _ => ⟨rfl, _, Try.underlying17, fun q h => (by cases h), fun n e h => (by cases h)⟩, exists_of_isSome (by kernel_rfl)⟩, ?_⟩
    refine ⟨⟨rfl, by kernel_rfl, by decide, fun h => (by cases h), fun _ => ⟨rfl, _, Try.underlying17, fun q h => (by cases h), fun n e h => (by cases h)⟩, exists_of_isSome (by kernel_rfl)⟩, ?_⟩
    refine ⟨⟨rfl, by kernel_rfl, by decide, fun h => (by cases h), fun _ => ⟨rfl, _, Try.underlying17, fun q h => (by cases h), fun n e h => (by cases h)⟩, exists_of_isSome (by kernel_rfl)⟩, ?_⟩
    refine ⟨⟨rfl, by kernel_rfl, by decide, fun h => (by cases h), fun _ => ⟨rfl, _, Try.underlying9, fun q h => (by cases h), fun n e h => (by cases h)⟩, exists_of_isSome (by kernel_rfl)⟩, ?_⟩
    trivial
theorem tyOk154 : TIOk Try.prog 154 ⟨.one, 1, 4, [.d (.v (.int .u32 0))]⟩ := by
  refine tiok_of (z := (.int .u32 0 : Value)) (by kernel_rfl) (by kernel_rfl) (by kernel_rfl) (by simp [ZsOk, ZOk, sc, Value.cells]) rfl (by decide) ?_ ?_ ?_
  · exact fun _ => ⟨_, rfl, rfl⟩
  · exact fun h => (by cases h)
  · exact ⟨rfl, _, Try.underlying154, fun q h => (by cases h), fun n e h => (by cases h)⟩
theorem tyOk155 : TIOk Try.prog 155 ⟨.one, 1, 1, [.d (.v (.int .u8 0))]⟩ := by
  refine tiok_of (z := (.int .u8 0 : Value)) (by kernel_rfl) (by kernel_rfl) (by kernel_rfl) (by simp [ZsOk, ZOk, sc, Value.cells]) rfl (by decide) ?_ ?_ ?_
  · exact fun _ => ⟨_, rfl, rfl⟩
  · exact fun h => (by cases h)
  · exact ⟨rfl, _, Try.underlying155, fun q h => (by cases h), fun n e h => (by cases h)⟩
theorem tyOk156 : TIOk Try.prog 156 ⟨.one, 1, 1, [.d (.v (.int .u8 0))]⟩ := by
  refine tiok_of (z := (.int .u8 0 : Value)) (by kernel_rfl) (by kernel_rfl) (by kernel_rfl) (by simp [ZsOk, ZOk, sc, Value.cells]) rfl (by decide) ?_ ?_ ?_
  · exact fun _ => ⟨_, rfl, rfl⟩
  · exact fun h => (by cases h)
  · exact ⟨rfl, _, Try.underlying156, fun q h => (by cases h), fun n e h => (by cases h)⟩
theorem tyOk159 : TIOk Try.prog 159 ⟨.one, 1, 4, [.d (.v (.int .i32 0))]⟩ := by
  refine tiok_of (z := (.int .i32 0 : Value)) (by kernel_rfl) (by kernel_rfl) (by kernel_rfl) (by simp [ZsOk, ZOk, sc, Value.cells]) rfl (by decide) ?_ ?_ ?_
  · exact fun _ => ⟨_, rfl, rfl⟩
  · exact fun h => (by cases h)
  · exact ⟨rfl, _, Try.underlying159, fun q h => (by cases h), fun n e h => (by cases h)⟩
theorem tyOk160 : TIOk Try.prog 160 ⟨.one, 1, 4, [.d (.v (.int .i32 0))]⟩ := by
  refine tiok_of (z := (.int .i32 0 : Value)) (by kernel_rfl) (by kernel_rfl) (by kernel_rfl) (by simp [ZsOk, ZOk, sc, Value.cells]) rfl (by decide) ?_ ?_ ?_
  · exact fun _ => ⟨_, rfl, rfl⟩
  · exact fun h => (by cases h)
  · exact ⟨rfl, _, Try.underlying160, fun q h => (by cases h), fun n e h => (by cases h)⟩
theorem tyOk161 : TIOk Try.prog 161 ⟨.st [⟨0, 1, false⟩, ⟨1, 1, false⟩, ⟨2, 1, false⟩, ⟨3, 1, false⟩, ⟨4, 1, false⟩, ⟨5, 1, false⟩, ⟨6, 1, false⟩, ⟨7, 1, false⟩, ⟨8, 1, false⟩, ⟨9, 1, false⟩, ⟨10, 1, false⟩], 11, 48, [.d (.v (.int .u64 0)), .d (.v (.int .u64 0)), .d (.v (.int .u32 0)), .d (.v (.int .u8 0)), .d (.v (.int .u8 0)), .d (.v (.int .u8 0)), .d (.v (.int .u8 0)), .d (.v .nilFunc), .d (.v (.pointer none)), .d (.v (.int .i32 0)), .d (.v (.int .i32 0))]⟩ := by
  refine tiok_of (z := (.agg #[.int .u64 0, .int .u64 0, .int .u32 0, .int .u8 0, .int .u8 0, .int .u8 0, .int .u8 0, .nilFunc, .pointer none, .int .i32 0, .int .i32 0] : Value)) (by kernel_rfl) (by kernel_rfl) (by kernel_rfl) (by simp [ZsOk, ZOk, sc, Value.cells]) rfl (by decide) ?_ ?_ ?_
  · exact fun h => (by cases h)
  · exact fun _ => ⟨_, rfl⟩
  · refine ⟨_, Try.underlying161, ?_⟩
    refine ⟨⟨rfl, by kernel_rfl, by decide, fun h => (by cases h), fun _ => ⟨rfl, _, Try.underlying12, fun q h => (by cases h), fun n e h => (by cases h)⟩, exists_of_isSome (by kernel_rfl)⟩, ?_⟩
    refine ⟨⟨rfl, by kernel_rfl, by decide, fun h => (by cases h), fun _ => ⟨rfl, _, Try.underlying12, fun q h => (by cases h), fun n e h => (by cases h)⟩, exists_of_isSome (by kernel_rfl)⟩, ?_⟩
    refine ⟨⟨rfl, by kernel_rfl, by decide, fun h => (by cases h), fun _ => ⟨rfl, _, Try.underlying154, fun q h => (by cases h), fun n e h => (by cases h)⟩, exists_of_isSome (by kernel_rfl)⟩, ?_⟩
    refine ⟨⟨rfl, by kernel_rfl, by decide, fun h => (by cases h), fun _ => ⟨rfl, _, Try.underlying155, fun q h => (by cases h), fun n e h => (by cases h)⟩, exists_of_isSome (by kernel_rfl)⟩, ?_⟩
    refine ⟨⟨rfl, by kernel_rfl, by decide, fun h => (by cases h), fun _ => ⟨rfl, _, Try.underlying5, fun q h => (by cases h), fun n e h => (by cases h)⟩, exists_of_isSome (by kernel_rfl)⟩, ?_⟩
    refine ⟨⟨rfl, by kernel_rfl, by decide, fun h => (by cases h), fun _ => ⟨rfl, _, Try.underlying5, fun q h => (by cases h), fun n e h => (by cases h)⟩, exists_of_isSome (by kernel_rfl)⟩, ?_⟩
    refine ⟨⟨rfl, by kernel_rfl, by decide, fun h => (by cases h), fun _ => ⟨rfl, _, Try.underlying156, fun q h => (by cases h), fun n e h => (by cases h)⟩, exists_of_isSome (by kernel_rfl)⟩, ?_⟩
    refine ⟨⟨rfl, by kernel_rfl, by decide, fun h => (by cases h), fun _ => ⟨rfl, _, Try.underlying157, fun q h => (by cases h), fun n e h => (by cases h)⟩, exists_of_isSome (by kernel_rfl)⟩, ?_⟩
    refine ⟨⟨rfl, by kernel_rfl, by decide, fun h => (by cases h), fun _ => ⟨rfl, _, Try.underlying158, fun q h => (by cases h), fun n e h => (by cases h)⟩, exists_of_isSome (by kernel_rfl)⟩, ?_⟩
    refine ⟨⟨rfl, by kernel_rfl, by decide, fun h => (by cases h), fun _ => ⟨rfl, _, Try.underlying159, fun q h => (by cases h), fun n e h => (by cases h)⟩, exists_of_isSome (by kernel_rfl)⟩, ?_⟩
    refine ⟨⟨rfl, by kernel_rfl, by decide, fun h => (by cases h), fun _ => ⟨rfl, _, Try.underlying160, fun q h => (by cases h), fun n e h => (by cases h)⟩, exists_of_isSome (by kernel_rfl)⟩, ?_⟩
    trivial
theorem tyOk162 : TIOk Try.prog 162 ⟨.st [⟨0, 1, false⟩, ⟨1, 1, false⟩, ⟨2, 1, false⟩, ⟨3, 1, false⟩, ⟨4, 1, false⟩, ⟨5, 1, false⟩, ⟨6, 1, false⟩, ⟨7, 1, false⟩, ⟨8, 1, false⟩, ⟨9, 1, false⟩, ⟨10, 1, false⟩], 11, 48, [.d (.v (.int .u64 0)), .d (.v (.int .u64 0)), .d (.v (.int .u32 0)), .d (.v (.int .u8 0)), .d (.v (.int .u8 0)), .d (.v (.int .u8 0)), .d (.v (.int .u8 0)), .d (.v .nilFunc), .d (.v (.pointer none)), .d (.v (.int .i32 0)), .d (.v (.int .i32 0))]⟩ := by
  refine tiok_of (z := (.agg #[.int .u64 0, .int .u64 0, .int .u32 0, .int .u8 0, .int .u8 0, .int .u8 0, .int .u8 0, .nilFunc, .pointer none, .int .i32 0, .int .i32 0] : Value)) (by kernel_rfl) (by kernel_rfl) (by kernel_rfl) (by simp [ZsOk, ZOk, sc, Value.cells]) rfl (by decide) ?_ ?_ ?_
  · exact fun h => (by cases h)
  · exact fun _ => ⟨_, rfl⟩
  · refine ⟨_, Try.underlying162, ?_⟩
    refine ⟨⟨rfl, by kernel_rfl, by decide, fun h => (by cases h), fun _ => ⟨rfl, _, Try.underlying12, fun q h => (by cases h), fun n e h => (by cases h)⟩, exists_of_isSome (by kernel_rfl)⟩, ?_⟩
    refine ⟨⟨rfl, by kernel_rfl, by decide, fun h => (by cases h), fun _ => ⟨rfl, _, Try.underlying12, fun q h => (by cases h), fun n e h => (by cases h)⟩, exists_of_isSome (by kernel_rfl)⟩, ?_⟩
    refine ⟨⟨rfl, by kernel_rfl, by decide, fun h => (by cases h), fun _ => ⟨rfl, _, Try.underlying154, fun q h => (by cases h), fun n e h => (by cases h)⟩, exists_of_isSome (by kernel_rfl)⟩, ?_⟩
    refine ⟨⟨rfl, by kernel_rfl, by decide, fun h => (by cases h), fun _ => ⟨rfl, _, Try.underlying155, fun q h => (by cases h), fun n e h => (by cases h)⟩, exists_of_isSome (by kernel_rfl)⟩, ?_⟩
    refine ⟨⟨rfl, by kernel_rfl, by decide, fun h => (by cases h), fun _ => ⟨rfl, _, Try.underlying5, fun q h => (by cases h), fun n e h => (by cases h)⟩, exists_of_isSome (by kernel_rfl)⟩, ?_⟩
    refine ⟨⟨rfl, by kernel_rfl, by decide, fun h => (by cases h), fun _ => ⟨rfl, _, Try.underlying5, fun q h => (by cases h), fun n e h => (by cases h)⟩, exists_of_isSome (by kernel_rfl)⟩, ?_⟩
    refine ⟨⟨rfl, by kernel_rfl, by decide, fun h => (by cases h), fun _ => ⟨rfl, _, Try.underlying156, fun q h => (by cases h), fun n e h => (by cases h)⟩, exists_of_isSome (by kernel_rfl)⟩, ?_⟩
    refine ⟨⟨rfl, by kernel_rfl, by decide, fun h => (by cases h), fun _ => ⟨rfl, _, Try.underlying157, fun q h => (by cases h), fun n e h => (by cases h)⟩, exists_of_isSome (by kernel_rfl)⟩, ?_⟩
    refine ⟨⟨rfl, by kernel_rfl, by decide, fun h => (by cases h), fun _ => ⟨rfl, _, Try.underlying158, fun q h => (by cases h), fun n e h => (by cases h)⟩, exists_of_isSome (by kernel_rfl)⟩, ?_⟩
    refine ⟨⟨rfl, by kernel_rfl, by decide, fun h => (by cases h), fun _ => ⟨rfl, _, Try.underlying159, fun q h => (by cases h), fun n e h => (by cases h)⟩, exists_of_isSome (by kernel_rfl)⟩, ?_⟩
    refine ⟨⟨rfl, by kernel_rfl, by decide, fun h => (by cases h), fun _ => ⟨rfl, _, Try.underlying160, fun q h => (by cases h), fun n e h => (by cases h)⟩, exists_of_isSome (by kernel_rfl)⟩, ?_⟩
    trivial
theorem tyOk : TOk Try.prog ty := by
  intro t i h
  unfold ty at h
  split at h
  · cases h; exact tyOk2
  · cases h; exact tyOk3
  · cases h; exact tyOk4
  · cases h; exact tyOk5
  · cases h; exact tyOk6
  · cases h; exact tyOk7
  · cases h; exact tyOk8
  · cases h; exact tyOk9
  · cases h; exact tyOk10
  · cases h; exact tyOk11
  · cases h; exact tyOk12
  · cases h; exact tyOk13
  · cases h; exact tyOk14
  · cases h; exact tyOk18
  · cases h; exact tyOk19
  · cases h; exact tyOk21
  · cases h; exact tyOk22
  · cases h; exact tyOk23
  · cases h; exact tyOk24
  · cases h; exact tyOk26
  · cases h; exact tyOk28
  · cases h; exact tyOk29
  · cases h; exact tyOk30
  · cases h; exact tyOk37
  · cases h; exact tyOk38
  · cases h; exact tyOk39
  · cases h; exact tyOk42
  · cases h; exact tyOk43
  · cases h; exact tyOk44
  · cases h; exact tyOk51
  · cases h; exact tyOk52
  · cases h; exact tyOk55
  · cases h; exact tyOk56
  · cases h; exact tyOk61
  · cases h; exact tyOk62
  · cases h; exact tyOk63
  · cases h; exact tyOk64
  · cases h; exact tyOk67
  · cases h; exact tyOk75
  · cases h; exact tyOk76
  · cases h; exact tyOk77
  · cases h; exact tyOk80
  · cases h; exact tyOk81
  · cases h; exact tyOk82
  · cases h; exact tyOk112
  · cases h; exact tyOk113
  · cases h; exact tyOk114
  · cases h; exact tyOk122
  · cases h; exact tyOk124
  · cases h; exact tyOk129
  · cases h; exact tyOk130
  · cases h; exact tyOk131
  · cases h; exact tyOk140
  · cases h; exact tyOk141
  · cases h; exact tyOk143
  · cases h; exact tyOk144
  · cases h; exact tyOk148
  · cases h; exact tyOk149
  · cases h; exact tyOk154
  · cases h; exact tyOk155
  · cases h; exact tyOk156
  · cases h; exact tyOk159
  · cases h; exact tyOk160
  · cases h; exact tyOk161
  · cases h; exact tyOk162
  · cases h
end Go.Proofs.Ytphneohnocljcaa
