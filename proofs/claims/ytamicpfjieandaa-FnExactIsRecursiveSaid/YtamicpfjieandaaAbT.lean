/- The types of this seat, as the generator asks for them. Printed by types.py. -/
import Derived.Test.YtamicpfjieandaaProg
import Derived.Test.YtamicpfjieandaaAbS
import Derived.KernelRfl
namespace Go.Proofs.Ytamicpfjieandaa
open Go Go.Ab
set_option linter.unusedVariables false
set_option linter.unusedSimpArgs false
theorem exists_of_isSome {α : Type} {o : Option α} (h : o.isSome = true) : ∃ z, o = some z := Option.isSome_iff_exists.1 h
theorem tiok_of {P : Program} {t : Nat} {i : TI} {z : Value} (hs : (P.info? t).map (·.size) = some i.sz) (hb : (P.info? t).map (·.bytes) = some i.bytes)
    (hz : (P.info? t).bind (·.zero) = some z) (h1 : ZsOk z.cells.toList i.zero) (h2 : z.cells.size = i.sz) (h3 : i.sz ≠ 0)
    (h4 : i.ag = false → ∃ x, z.cells = #[x] ∧ x = z) (h5 : i.ag = true → ∃ cs, z = .agg cs) (h6 : KOk P t i.sz i.k) : TIOk P t i := by
  cases e : P.info? t with
  | none => rw [e] at hs; cases hs
  | some f =>
    rw [e] at hs hb hz
    simp only [Option.map_some, Option.some.injEq, Option.bind_some] at hs hb hz
    exact ⟨f, z, e, hs, hb, hz, h1, h2, h3, h4, h5, h6⟩
def ty : Ty
  | 2 => some ⟨.one, 1, 8, [.d (.v (.int .i64 0))]⟩
  | 3 => some ⟨.one, 1, 8, [.d (.v (.int .i64 0))]⟩
  | 4 => some ⟨.boo, 1, 1, [.d (.v (.bool false))]⟩
  | 5 => some ⟨.one, 1, 1, [.d (.v (.int .u8 0))]⟩
  | 6 => some ⟨.one, 1, 1, [.d (.v (.int .u8 0))]⟩
  | 7 => some ⟨.st [⟨0, 1, false⟩, ⟨1, 1, false⟩, ⟨2, 1, false⟩, ⟨3, 1, false⟩], 4, 24, [.d (.v (.int .i64 0)), .d (.v (.int .i64 0)), .d (.v (.bool false)), .d (.v (.int .u8 0))]⟩
  | 8 => some ⟨.st [⟨0, 1, false⟩, ⟨1, 1, false⟩, ⟨2, 1, false⟩, ⟨3, 1, false⟩], 4, 24, [.d (.v (.int .i64 0)), .d (.v (.int .i64 0)), .d (.v (.bool false)), .d (.v (.int .u8 0))]⟩
  | 9 => some ⟨.str, 1, 16, [.d (.v (.string ⟨#[]⟩))]⟩
  | 10 => some ⟨.str, 1, 16, [.d (.v (.string ⟨#[]⟩))]⟩
  | 11 => some ⟨.str, 1, 16, [.d (.v (.string ⟨#[]⟩))]⟩
  | 12 => some ⟨.one, 1, 8, [.d (.v (.int .u64 0))]⟩
  | 13 => some ⟨.st [⟨0, 1, false⟩, ⟨1, 1, false⟩], 2, 24, [.d (.v (.string ⟨#[]⟩)), .d (.v (.int .u64 0))]⟩
  | 14 => some ⟨.st [⟨0, 1, false⟩, ⟨1, 1, false⟩], 2, 24, [.d (.v (.string ⟨#[]⟩)), .d (.v (.int .u64 0))]⟩
  | 18 => some ⟨.st [⟨0, 1, false⟩], 1, 8, [.d (.v (.pointer none))]⟩
  | 19 => some ⟨.st [⟨0, 1, false⟩], 1, 8, [.d (.v (.pointer none))]⟩
  | 21 => some ⟨.one, 1, 4, [.d (.v (.int .i32 0))]⟩
  | 22 => some ⟨.slc 42, 1, 24, [.nil]⟩
  | 23 => some ⟨.st [⟨0, 1, false⟩], 1, 24, [.nil]⟩
  | 24 => some ⟨.st [⟨0, 1, false⟩], 1, 24, [.nil]⟩
  | 26 => some ⟨.slc 3, 1, 24, [.nil]⟩
  | 28 => some ⟨.slc 49, 1, 24, [.nil]⟩
  | 29 => some ⟨.st [⟨0, 1, false⟩], 1, 24, [.nil]⟩
  | 30 => some ⟨.st [⟨0, 1, false⟩], 1, 24, [.nil]⟩
  | 37 => some ⟨.slc 9, 1, 24, [.nil]⟩
  | 38 => some ⟨.slc 40, 1, 24, [.nil]⟩
  | 39 => some ⟨.st [⟨0, 1, false⟩, ⟨1, 1, false⟩, ⟨2, 1, false⟩], 3, 48, [.d (.v (.int .i64 0)), .d (.v (.string ⟨#[]⟩)), .nil]⟩
  | 40 => some ⟨.st [⟨0, 1, false⟩, ⟨1, 1, false⟩, ⟨2, 1, false⟩], 3, 48, [.d (.v (.int .i64 0)), .d (.v (.string ⟨#[]⟩)), .nil]⟩
  | 41 => some ⟨.st [⟨0, 1, false⟩, ⟨1, 1, false⟩, ⟨2, 1, false⟩, ⟨3, 1, false⟩, ⟨4, 3, true⟩], 7, 128, [.d (.v (.string ⟨#[]⟩)), .d (.v (.string ⟨#[]⟩)), .nil, .nil, .d (.v (.int .i64 0)), .d (.v (.string ⟨#[]⟩)), .nil]⟩
  | 42 => some ⟨.st [⟨0, 1, false⟩, ⟨1, 1, false⟩, ⟨2, 1, false⟩, ⟨3, 1, false⟩, ⟨4, 3, true⟩], 7, 128, [.d (.v (.string ⟨#[]⟩)), .d (.v (.string ⟨#[]⟩)), .nil, .nil, .d (.v (.int .i64 0)), .d (.v (.string ⟨#[]⟩)), .nil]⟩
  | 45 => some ⟨.slc 47, 1, 24, [.nil]⟩
  | 46 => some ⟨.st [⟨0, 1, false⟩, ⟨1, 1, false⟩, ⟨2, 1, false⟩], 3, 48, [.d (.v (.int .i64 0)), .d (.v (.string ⟨#[]⟩)), .nil]⟩
  | 47 => some ⟨.st [⟨0, 1, false⟩, ⟨1, 1, false⟩, ⟨2, 1, false⟩], 3, 48, [.d (.v (.int .i64 0)), .d (.v (.string ⟨#[]⟩)), .nil]⟩
  | 48 => some ⟨.st [⟨0, 1, false⟩, ⟨1, 1, false⟩, ⟨2, 1, false⟩, ⟨3, 1, false⟩, ⟨4, 3, true⟩], 7, 128, [.d (.v (.string ⟨#[]⟩)), .d (.v (.string ⟨#[]⟩)), .nil, .nil, .d (.v (.int .i64 0)), .d (.v (.string ⟨#[]⟩)), .nil]⟩
  | 49 => some ⟨.st [⟨0, 1, false⟩, ⟨1, 1, false⟩, ⟨2, 1, false⟩, ⟨3, 1, false⟩, ⟨4, 3, true⟩], 7, 128, [.d (.v (.string ⟨#[]⟩)), .d (.v (.string ⟨#[]⟩)), .nil, .nil, .d (.v (.int .i64 0)), .d (.v (.string ⟨#[]⟩)), .nil]⟩
  | 58 => some ⟨.slc 26, 1, 24, [.nil]⟩
  | 59 => some ⟨.st [⟨0, 1, false⟩, ⟨1, 1, false⟩, ⟨2, 1, false⟩, ⟨3, 1, false⟩, ⟨4, 1, false⟩, ⟨5, 1, false⟩, ⟨6, 1, false⟩], 7, 152, [.nil, .nil, .nil, .nil, .nil, .nil, .d (.v (.int .i64 0))]⟩
  | 60 => some ⟨.st [⟨0, 1, false⟩, ⟨1, 1, false⟩, ⟨2, 1, false⟩, ⟨3, 1, false⟩, ⟨4, 1, false⟩, ⟨5, 1, false⟩, ⟨6, 1, false⟩], 7, 152, [.nil, .nil, .nil, .nil, .nil, .nil, .d (.v (.int .i64 0))]⟩
  | 63 => some ⟨.st [⟨0, 1, false⟩, ⟨1, 1, false⟩, ⟨2, 1, false⟩, ⟨3, 1, false⟩, ⟨4, 1, false⟩, ⟨5, 1, false⟩, ⟨6, 1, false⟩], 7, 152, [.nil, .nil, .nil, .nil, .nil, .nil, .d (.v (.int .i64 0))]⟩
  | 72 => some ⟨.slc 37, 1, 24, [.nil]⟩
  | 76 => some ⟨.slc 112, 1, 24, [.nil]⟩
  | 79 => some ⟨.slc 118, 1, 24, [.nil]⟩
  | 111 => some ⟨.st [⟨0, 1, false⟩, ⟨1, 1, false⟩], 2, 24, [.d (.v (.string ⟨#[]⟩)), .d (.v (.int .i64 0))]⟩
  | 112 => some ⟨.st [⟨0, 1, false⟩, ⟨1, 1, false⟩], 2, 24, [.d (.v (.string ⟨#[]⟩)), .d (.v (.int .i64 0))]⟩
  | 116 => some ⟨.slc 45, 1, 24, [.nil]⟩
  | 118 => some ⟨.st [⟨0, 1, false⟩, ⟨1, 1, false⟩], 2, 24, [.d (.v (.string ⟨#[]⟩)), .d (.v (.int .i64 0))]⟩
  | 130 => some ⟨.slc 5, 1, 24, [.nil]⟩
  | 141 => some ⟨.st [⟨0, 1, false⟩, ⟨1, 1, false⟩, ⟨2, 1, false⟩, ⟨3, 1, false⟩], 4, 40, [.d (.v (.pointer none)), .d (.v (.pointer none)), .d (.v (.pointer none)), .d (.v (.string ⟨#[]⟩))]⟩
  | 142 => some ⟨.st [⟨0, 1, false⟩, ⟨1, 1, false⟩, ⟨2, 1, false⟩, ⟨3, 1, false⟩], 4, 40, [.d (.v (.pointer none)), .d (.v (.pointer none)), .d (.v (.pointer none)), .d (.v (.string ⟨#[]⟩))]⟩
  | 147 => some ⟨.one, 1, 4, [.d (.v (.int .u32 0))]⟩
  | 148 => some ⟨.one, 1, 1, [.d (.v (.int .u8 0))]⟩
  | 149 => some ⟨.one, 1, 1, [.d (.v (.int .u8 0))]⟩
  | 152 => some ⟨.one, 1, 4, [.d (.v (.int .i32 0))]⟩
  | 153 => some ⟨.one, 1, 4, [.d (.v (.int .i32 0))]⟩
  | 154 => some ⟨.st [⟨0, 1, false⟩, ⟨1, 1, false⟩, ⟨2, 1, false⟩, ⟨3, 1, false⟩, ⟨4, 1, false⟩, ⟨5, 1, false⟩, ⟨6, 1, false⟩, ⟨7, 1, false⟩, ⟨8, 1, false⟩, ⟨9, 1, false⟩, ⟨10, 1, false⟩], 11, 48, [.d (.v (.int .u64 0)), .d (.v (.int .u64 0)), .d (.v (.int .u32 0)), .d (.v (.int .u8 0)), .d (.v (.int .u8 0)), .d (.v (.int .u8 0)), .d (.v (.int .u8 0)), .d (.v .nilFunc), .d (.v (.pointer none)), .d (.v (.int .i32 0)), .d (.v (.int .i32 0))]⟩
  | 155 => some ⟨.st [⟨0, 1, false⟩, ⟨1, 1, false⟩, ⟨2, 1, false⟩, ⟨3, 1, false⟩, ⟨4, 1, false⟩, ⟨5, 1, false⟩, ⟨6, 1, false⟩, ⟨7, 1, false⟩, ⟨8, 1, false⟩, ⟨9, 1, false⟩, ⟨10, 1, false⟩], 11, 48, [.d (.v (.int .u64 0)), .d (.v (.int .u64 0)), .d (.v (.int .u32 0)), .d (.v (.int .u8 0)), .d (.v (.int .u8 0)), .d (.v (.int .u8 0)), .d (.v (.int .u8 0)), .d (.v .nilFunc), .d (.v (.pointer none)), .d (.v (.int .i32 0)), .d (.v (.int .i32 0))]⟩
  | _ => none
@[go_sem] theorem ty2 : ty 2 = some ⟨.one, 1, 8, [.d (.v (.int .i64 0))]⟩ := rfl
@[go_sem] theorem ty3 : ty 3 = some ⟨.one, 1, 8, [.d (.v (.int .i64 0))]⟩ := rfl
@[go_sem] theorem ty4 : ty 4 = some ⟨.boo, 1, 1, [.d (.v (.bool false))]⟩ := rfl
@[go_sem] theorem ty5 : ty 5 = some ⟨.one, 1, 1, [.d (.v (.int .u8 0))]⟩ := rfl
@[go_sem] theorem ty6 : ty 6 = some ⟨.one, 1, 1, [.d (.v (.int .u8 0))]⟩ := rfl
@[go_sem] theorem ty7 : ty 7 = some ⟨.st [⟨0, 1, false⟩, ⟨1, 1, false⟩, ⟨2, 1, false⟩, ⟨3, 1, false⟩], 4, 24, [.d (.v (.int .i64 0)), .d (.v (.int .i64 0)), .d (.v (.bool false)), .d (.v (.int .u8 0))]⟩ := rfl
@[go_sem] theorem ty8 : ty 8 = some ⟨.st [⟨0, 1, false⟩, ⟨1, 1, false⟩, ⟨2, 1, false⟩, ⟨3, 1, false⟩], 4, 24, [.d (.v (.int .i64 0)), .d (.v (.int .i64 0)), .d (.v (.bool false)), .d (.v (.int .u8 0))]⟩ := rfl
@[go_sem] theorem ty9 : ty 9 = some ⟨.str, 1, 16, [.d (.v (.string ⟨#[]⟩))]⟩ := rfl
@[go_sem] theorem ty10 : ty 10 = some ⟨.str, 1, 16, [.d (.v (.string ⟨#[]⟩))]⟩ := rfl
@[go_sem] theorem ty11 : ty 11 = some ⟨.str, 1, 16, [.d (.v (.string ⟨#[]⟩))]⟩ := rfl
@[go_sem] theorem ty12 : ty 12 = some ⟨.one, 1, 8, [.d (.v (.int .u64 0))]⟩ := rfl
@[go_sem] theorem ty13 : ty 13 = some ⟨.st [⟨0, 1, false⟩, ⟨1, 1, false⟩], 2, 24, [.d (.v (.string ⟨#[]⟩)), .d (.v (.int .u64 0))]⟩ := rfl
@[go_sem] theorem ty14 : ty 14 = some ⟨.st [⟨0, 1, false⟩, ⟨1, 1, false⟩], 2, 24, [.d (.v (.string ⟨#[]⟩)), .d (.v (.int .u64 0))]⟩ := rfl
@[go_sem] theorem ty18 : ty 18 = some ⟨.st [⟨0, 1, false⟩], 1, 8, [.d (.v (.pointer none))]⟩ := rfl
@[go_sem] theorem ty19 : ty 19 = some ⟨.st [⟨0, 1, false⟩], 1, 8, [.d (.v (.pointer none))]⟩ := rfl
@[go_sem] theorem ty21 : ty 21 = some ⟨.one, 1, 4, [.d (.v (.int .i32 0))]⟩ := rfl
@[go_sem] theorem ty22 : ty 22 = some ⟨.slc 42, 1, 24, [.nil]⟩ := rfl
@[go_sem] theorem ty23 : ty 23 = some ⟨.st [⟨0, 1, false⟩], 1, 24, [.nil]⟩ := rfl
@[go_sem] theorem ty24 : ty 24 = some ⟨.st [⟨0, 1, false⟩], 1, 24, [.nil]⟩ := rfl
@[go_sem] theorem ty26 : ty 26 = some ⟨.slc 3, 1, 24, [.nil]⟩ := rfl
@[go_sem] theorem ty28 : ty 28 = some ⟨.slc 49, 1, 24, [.nil]⟩ := rfl
@[go_sem] theorem ty29 : ty 29 = some ⟨.st [⟨0, 1, false⟩], 1, 24, [.nil]⟩ := rfl
@[go_sem] theorem ty30 : ty 30 = some ⟨.st [⟨0, 1, false⟩], 1, 24, [.nil]⟩ := rfl
@[go_sem] theorem ty37 : ty 37 = some ⟨.slc 9, 1, 24, [.nil]⟩ := rfl
@[go_sem] theorem ty38 : ty 38 = some ⟨.slc 40, 1, 24, [.nil]⟩ := rfl
@[go_sem] theorem ty39 : ty 39 = some ⟨.st [⟨0, 1, false⟩, ⟨1, 1, false⟩, ⟨2, 1, false⟩], 3, 48, [.d (.v (.int .i64 0)), .d (.v (.string ⟨#[]⟩)), .nil]⟩ := rfl
@[go_sem] theorem ty40 : ty 40 = some ⟨.st [⟨0, 1, false⟩, ⟨1, 1, false⟩, ⟨2, 1, false⟩], 3, 48, [.d (.v (.int .i64 0)), .d (.v (.string ⟨#[]⟩)), .nil]⟩ := rfl
@[go_sem] theorem ty41 : ty 41 = some ⟨.st [⟨0, 1, false⟩, ⟨1, 1, false⟩, ⟨2, 1, false⟩, ⟨3, 1, false⟩, ⟨4, 3, true⟩], 7, 128, [.d (.v (.string ⟨#[]⟩)), .d (.v (.string ⟨#[]⟩)), .nil, .nil, .d (.v (.int .i64 0)), .d (.v (.string ⟨#[]⟩)), .nil]⟩ := rfl
@[go_sem] theorem ty42 : ty 42 = some ⟨.st [⟨0, 1, false⟩, ⟨1, 1, false⟩, ⟨2, 1, false⟩, ⟨3, 1, false⟩, ⟨4, 3, true⟩], 7, 128, [.d (.v (.string ⟨#[]⟩)), .d (.v (.string ⟨#[]⟩)), .nil, .nil, .d (.v (.int .i64 0)), .d (.v (.string ⟨#[]⟩)), .nil]⟩ := rfl
@[go_sem] theorem ty45 : ty 45 = some ⟨.slc 47, 1, 24, [.nil]⟩ := rfl
@[go_sem] theorem ty46 : ty 46 = some ⟨.st [⟨0, 1, false⟩, ⟨1, 1, false⟩, ⟨2, 1, false⟩], 3, 48, [.d (.v (.int .i64 0)), .d (.v (.string ⟨#[]⟩)), .nil]⟩ := rfl
@[go_sem] theorem ty47 : ty 47 = some ⟨.st [⟨0, 1, false⟩, ⟨1, 1, false⟩, ⟨2, 1, false⟩], 3, 48, [.d (.v (.int .i64 0)), .d (.v (.string ⟨#[]⟩)), .nil]⟩ := rfl
@[go_sem] theorem ty48 : ty 48 = some ⟨.st [⟨0, 1, false⟩, ⟨1, 1, false⟩, ⟨2, 1, false⟩, ⟨3, 1, false⟩, ⟨4, 3, true⟩], 7, 128, [.d (.v (.string ⟨#[]⟩)), .d (.v (.string ⟨#[]⟩)), .nil, .nil, .d (.v (.int .i64 0)), .d (.v (.string ⟨#[]⟩)), .nil]⟩ := rfl
@[go_sem] theorem ty49 : ty 49 = some ⟨.st [⟨0, 1, false⟩, ⟨1, 1, false⟩, ⟨2, 1, false⟩, ⟨3, 1, false⟩, ⟨4, 3, true⟩], 7, 128, [.d (.v (.string ⟨#[]⟩)), .d (.v (.string ⟨#[]⟩)), .nil, .nil, .d (.v (.int .i64 0)), .d (.v (.string ⟨#[]⟩)), .nil]⟩ := rfl
@[go_sem] theorem ty58 : ty 58 = some ⟨.slc 26, 1, 24, [.nil]⟩ := rfl
@[go_sem] theorem ty59 : ty 59 = some ⟨.st [⟨0, 1, false⟩, ⟨1, 1, false⟩, ⟨2, 1, false⟩, ⟨3, 1, false⟩, ⟨4, 1, false⟩, ⟨5, 1, false⟩, ⟨6, 1, false⟩], 7, 152, [.nil, .nil, .nil, .nil, .nil, .nil, .d (.v (.int .i64 0))]⟩ := rfl
@[go_sem] theorem ty60 : ty 60 = some ⟨.st [⟨0, 1, false⟩, ⟨1, 1, false⟩, ⟨2, 1, false⟩, ⟨3, 1, false⟩, ⟨4, 1, false⟩, ⟨5, 1, false⟩, ⟨6, 1, false⟩], 7, 152, [.nil, .nil, .nil, .nil, .nil, .nil, .d (.v (.int .i64 0))]⟩ := rfl
@[go_sem] theorem ty63 : ty 63 = some ⟨.st [⟨0, 1, false⟩, ⟨1, 1, false⟩, ⟨2, 1, false⟩, ⟨3, 1, false⟩, ⟨4, 1, false⟩, ⟨5, 1, false⟩, ⟨6, 1, false⟩], 7, 152, [.nil, .nil, .nil, .nil, .nil, .nil, .d (.v (.int .i64 0))]⟩ := rfl
@[go_sem] theorem ty72 : ty 72 = some ⟨.slc 37, 1, 24, [.nil]⟩ := rfl
@[go_sem] theorem ty76 : ty 76 = some ⟨.slc 112, 1, 24, [.nil]⟩ := rfl
@[go_sem] theorem ty79 : ty 79 = some ⟨.slc 118, 1, 24, [.nil]⟩ := rfl
@[go_sem] theorem ty111 : ty 111 = some ⟨.st [⟨0, 1, false⟩, ⟨1, 1, false⟩], 2, 24, [.d (.v (.string ⟨#[]⟩)), .d (.v (.int .i64 0))]⟩ := rfl
@[go_sem] theorem ty112 : ty 112 = some ⟨.st [⟨0, 1, false⟩, ⟨1, 1, false⟩], 2, 24, [.d (.v (.string ⟨#[]⟩)), .d (.v (.int .i64 0))]⟩ := rfl
@[go_sem] theorem ty116 : ty 116 = some ⟨.slc 45, 1, 24, [.nil]⟩ := rfl
@[go_sem] theorem ty118 : ty 118 = some ⟨.st [⟨0, 1, false⟩, ⟨1, 1, false⟩], 2, 24, [.d (.v (.string ⟨#[]⟩)), .d (.v (.int .i64 0))]⟩ := rfl
@[go_sem] theorem ty130 : ty 130 = some ⟨.slc 5, 1, 24, [.nil]⟩ := rfl
@[go_sem] theorem ty141 : ty 141 = some ⟨.st [⟨0, 1, false⟩, ⟨1, 1, false⟩, ⟨2, 1, false⟩, ⟨3, 1, false⟩], 4, 40, [.d (.v (.pointer none)), .d (.v (.pointer none)), .d (.v (.pointer none)), .d (.v (.string ⟨#[]⟩))]⟩ := rfl
@[go_sem] theorem ty142 : ty 142 = some ⟨.st [⟨0, 1, false⟩, ⟨1, 1, false⟩, ⟨2, 1, false⟩, ⟨3, 1, false⟩], 4, 40, [.d (.v (.pointer none)), .d (.v (.pointer none)), .d (.v (.pointer none)), .d (.v (.string ⟨#[]⟩))]⟩ := rfl
@[go_sem] theorem ty147 : ty 147 = some ⟨.one, 1, 4, [.d (.v (.int .u32 0))]⟩ := rfl
@[go_sem] theorem ty148 : ty 148 = some ⟨.one, 1, 1, [.d (.v (.int .u8 0))]⟩ := rfl
@[go_sem] theorem ty149 : ty 149 = some ⟨.one, 1, 1, [.d (.v (.int .u8 0))]⟩ := rfl
@[go_sem] theorem ty152 : ty 152 = some ⟨.one, 1, 4, [.d (.v (.int .i32 0))]⟩ := rfl
@[go_sem] theorem ty153 : ty 153 = some ⟨.one, 1, 4, [.d (.v (.int .i32 0))]⟩ := rfl
@[go_sem] theorem ty154 : ty 154 = some ⟨.st [⟨0, 1, false⟩, ⟨1, 1, false⟩, ⟨2, 1, false⟩, ⟨3, 1, false⟩, ⟨4, 1, false⟩, ⟨5, 1, false⟩, ⟨6, 1, false⟩, ⟨7, 1, false⟩, ⟨8, 1, false⟩, ⟨9, 1, false⟩, ⟨10, 1, false⟩], 11, 48, [.d (.v (.int .u64 0)), .d (.v (.int .u64 0)), .d (.v (.int .u32 0)), .d (.v (.int .u8 0)), .d (.v (.int .u8 0)), .d (.v (.int .u8 0)), .d (.v (.int .u8 0)), .d (.v .nilFunc), .d (.v (.pointer none)), .d (.v (.int .i32 0)), .d (.v (.int .i32 0))]⟩ := rfl
@[go_sem] theorem ty155 : ty 155 = some ⟨.st [⟨0, 1, false⟩, ⟨1, 1, false⟩, ⟨2, 1, false⟩, ⟨3, 1, false⟩, ⟨4, 1, false⟩, ⟨5, 1, false⟩, ⟨6, 1, false⟩, ⟨7, 1, false⟩, ⟨8, 1, false⟩, ⟨9, 1, false⟩, ⟨10, 1, false⟩], 11, 48, [.d (.v (.int .u64 0)), .d (.v (.int .u64 0)), .d (.v (.int .u32 0)), .d (.v (.int .u8 0)), .d (.v (.int .u8 0)), .d (.v (.int .u8 0)), .d (.v (.int .u8 0)), .d (.v .nilFunc), .d (.v (.pointer none)), .d (.v (.int .i32 0)), .d (.v (.int .i32 0))]⟩ := rfl
theorem tyOk2 : TIOk Try.prog 2 ⟨.one, 1, 8, [.d (.v (.int .i64 0))]⟩ := by
  refine tiok_of (z := (.int .i64 0 : Value)) (by kernel_rfl) (by kernel_rfl) (by kernel_rfl) (by simp [ZsOk, ZOk, sc, Value.cells]) rfl (by decide) ?_ ?_ ?_
  · exact fun _ => ⟨_, rfl, rfl⟩
  · exact fun h => (by cases h)
  · exact ⟨rfl, _, Try.underlying2, fun q h => (by cases h), fun n e h => (by cases h)⟩
theorem tyOk3 : TIOk Try.prog 3 ⟨.one, 1, 8, [.d (.v (.int .i64 0))]⟩ := by
  refine tiok_of (z := (.int .i64 0 : Value)) (by kernel_rfl) (by kernel_rfl) (by kernel_rfl) (by simp [ZsOk, ZOk, sc, Value.cells]) rfl (by decide) ?_ ?_ ?_
  · exact fun _ => ⟨_, rfl, rfl⟩
  · exact fun h => (by cases h)
  · exact ⟨rfl, _, Try.underlying3, fun q h => (by cases h), fun n e h => (by cases h)⟩
theorem tyOk4 : TIOk Try.prog 4 ⟨.boo, 1, 1, [.d (.v (.bool false))]⟩ := by
  refine tiok_of (z := (.bool false : Value)) (by kernel_rfl) (by kernel_rfl) (by kernel_rfl) (by simp [ZsOk, ZOk, sc, Value.cells]) rfl (by decide) ?_ ?_ ?_
  · exact fun _ => ⟨_, rfl, rfl⟩
  · exact fun h => (by cases h)
  · exact ⟨rfl, Try.underlying4⟩
theorem tyOk5 : TIOk Try.prog 5 ⟨.one, 1, 1, [.d (.v (.int .u8 0))]⟩ := by
  refine tiok_of (z := (.int .u8 0 : Value)) (by kernel_rfl) (by kernel_rfl) (by kernel_rfl) (by simp [ZsOk, ZOk, sc, Value.cells]) rfl (by decide) ?_ ?_ ?_
  · exact fun _ => ⟨_, rfl, rfl⟩
  · exact fun h => (by cases h)
  · exact ⟨rfl, _, Try.underlying5, fun q h => (by cases h), fun n e h => (by cases h)⟩
theorem tyOk6 : TIOk Try.prog 6 ⟨.one, 1, 1, [.d (.v (.int .u8 0))]⟩ := by
  refine tiok_of (z := (.int .u8 0 : Value)) (by kernel_rfl) (by kernel_rfl) (by kernel_rfl) (by simp [ZsOk, ZOk, sc, Value.cells]) rfl (by decide) ?_ ?_ ?_
  · exact fun _ => ⟨_, rfl, rfl⟩
  · exact fun h => (by cases h)
  · exact ⟨rfl, _, Try.underlying6, fun q h => (by cases h), fun n e h => (by cases h)⟩
theorem tyOk7 : TIOk Try.prog 7 ⟨.st [⟨0, 1, false⟩, ⟨1, 1, false⟩, ⟨2, 1, false⟩, ⟨3, 1, false⟩], 4, 24, [.d (.v (.int .i64 0)), .d (.v (.int .i64 0)), .d (.v (.bool false)), .d (.v (.int .u8 0))]⟩ := by
  refine tiok_of (z := (.agg #[.int .i64 0, .int .i64 0, .bool false, .int .u8 0] : Value)) (by kernel_rfl) (by kernel_rfl) (by kernel_rfl) (by simp [ZsOk, ZOk, sc, Value.cells]) rfl (by decide) ?_ ?_ ?_
  · exact fun h => (by cases h)
  · exact fun _ => ⟨_, rfl⟩
  · refine ⟨_, Try.underlying7, ?_⟩
    refine ⟨⟨rfl, by kernel_rfl, by decide, fun h => (by cases h), fun _ => ⟨rfl, _, Try.underlying2, fun q h => (by cases h), fun n e h => (by cases h)⟩, exists_of_isSome (by kernel_rfl)⟩, ?_⟩
    refine ⟨⟨rfl, by kernel_rfl, by decide, fun h => (by cases h), fun _ => ⟨rfl, _, Try.underlying3, fun q h => (by cases h), fun n e h => (by cases h)⟩, exists_of_isSome (by kernel_rfl)⟩, ?_⟩
    refine ⟨⟨rfl, by kernel_rfl, by decide, fun h => (by cases h), fun _ => ⟨rfl, _, Try.underlying4, fun q h => (by cases h), fun n e h => (by cases h)⟩, exists_of_isSome (by kernel_rfl)⟩, ?_⟩
    refine ⟨⟨rfl, by kernel_rfl, by decide, fun h => (by cases h), fun _ => ⟨rfl, _, Try.underlying6, fun q h => (by cases h), fun n e h => (by cases h)⟩, exists_of_isSome (by kernel_rfl)⟩, ?_⟩
    trivial
theorem tyOk8 : TIOk Try.prog 8 ⟨.st [⟨0, 1, false⟩, ⟨1, 1, false⟩, ⟨2, 1, false⟩, ⟨3, 1, false⟩], 4, 24, [.d (.v (.int .i64 0)), .d (.v (.int .i64 0)), .d (.v (.bool false)), .d (.v (.int .u8 0))]⟩ := by
  refine tiok_of (z := (.agg #[.int .i64 0, .int .i64 0, .bool false, .int .u8 0] : Value)) (by kernel_rfl) (by kernel_rfl) (by kernel_rfl) (by simp [ZsOk, ZOk, sc, Value.cells]) rfl (by decide) ?_ ?_ ?_
  · exact fun h => (by cases h)
  · exact fun _ => ⟨_, rfl⟩
  · refine ⟨_, Try.underlying8, ?_⟩
    refine ⟨⟨rfl, by kernel_rfl, by decide, fun h => (by cases h), fun _ => ⟨rfl, _, Try.underlying2, fun q h => (by cases h), fun n e h => (by cases h)⟩, exists_of_isSome (by kernel_rfl)⟩, ?_⟩
    refine ⟨⟨rfl, by kernel_rfl, by decide, fun h => (by cases h), fun _ => ⟨rfl, _, Try.underlying3, fun q h => (by cases h), fun n e h => (by cases h)⟩, exists_of_isSome (by kernel_rfl)⟩, ?_⟩
    refine ⟨⟨rfl, by kernel_rfl, by decide, fun h => (by cases h), fun _ => ⟨rfl, _, Try.underlying4, fun q h => (by cases h), fun n e h => (by cases h)⟩, exists_of_isSome (by kernel_rfl)⟩, ?_⟩
    refine ⟨⟨rfl, by kernel_rfl, by decide, fun h => (by cases h), fun _ => ⟨rfl, _, Try.underlying6, fun q h => (by cases h), fun n e h => (by cases h)⟩, exists_of_isSome (by kernel_rfl)⟩, ?_⟩
    trivial
theorem tyOk9 : TIOk Try.prog 9 ⟨.str, 1, 16, [.d (.v (.string ⟨#[]⟩))]⟩ := by
  refine tiok_of (z := (.string ⟨#[]⟩ : Value)) (by kernel_rfl) (by kernel_rfl) (by kernel_rfl) (by simp [ZsOk, ZOk, sc, Value.cells]) rfl (by decide) ?_ ?_ ?_
  · exact fun _ => ⟨_, rfl, rfl⟩
  · exact fun h => (by cases h)
  · exact ⟨rfl, Try.underlying9⟩
theorem tyOk10 : TIOk Try.prog 10 ⟨.str, 1, 16, [.d (.v (.string ⟨#[]⟩))]⟩ := by
  refine tiok_of (z := (.string ⟨#[]⟩ : Value)) (by kernel_rfl) (by kernel_rfl) (by kernel_rfl) (by simp [ZsOk, ZOk, sc, Value.cells]) rfl (by decide) ?_ ?_ ?_
  · exact fun _ => ⟨_, rfl, rfl⟩
  · exact fun h => (by cases h)
  · exact ⟨rfl, Try.underlying10⟩
theorem tyOk11 : TIOk Try.prog 11 ⟨.str, 1, 16, [.d (.v (.string ⟨#[]⟩))]⟩ := by
  refine tiok_of (z := (.string ⟨#[]⟩ : Value)) (by kernel_rfl) (by kernel_rfl) (by kernel_rfl) (by simp [ZsOk, ZOk, sc, Value.cells]) rfl (by decide) ?_ ?_ ?_
  · exact fun _ => ⟨_, rfl, rfl⟩
  · exact fun h => (by cases h)
  · exact ⟨rfl, Try.underlying11⟩
theorem tyOk12 : TIOk Try.prog 12 ⟨.one, 1, 8, [.d (.v (.int .u64 0))]⟩ := by
  refine tiok_of (z := (.int .u64 0 : Value)) (by kernel_rfl) (by kernel_rfl) (by kernel_rfl) (by simp [ZsOk, ZOk, sc, Value.cells]) rfl (by decide) ?_ ?_ ?_
  · exact fun _ => ⟨_, rfl, rfl⟩
  · exact fun h => (by cases h)
  · exact ⟨rfl, _, Try.underlying12, fun q h => (by cases h), fun n e h => (by cases h)⟩
theorem tyOk13 : TIOk Try.prog 13 ⟨.st [⟨0, 1, false⟩, ⟨1, 1, false⟩], 2, 24, [.d (.v (.string ⟨#[]⟩)), .d (.v (.int .u64 0))]⟩ := by
  refine tiok_of (z := (.agg #[.string ⟨#[]⟩, .int .u64 0] : Value)) (by kernel_rfl) (by kernel_rfl) (by kernel_rfl) (by simp [ZsOk, ZOk, sc, Value.cells]) rfl (by decide) ?_ ?_ ?_
  · exact fun h => (by cases h)
  · exact fun _ => ⟨_, rfl⟩
  · refine ⟨_, Try.underlying13, ?_⟩
    refine ⟨⟨rfl, by kernel_rfl, by decide, fun h => (by cases h), fun _ => ⟨rfl, _, Try.underlying9, fun q h => (by cases h), fun n e h => (by cases h)⟩, exists_of_isSome (by kernel_rfl)⟩, ?_⟩
    refine ⟨⟨rfl, by kernel_rfl, by decide, fun h => (by cases h), fun _ => ⟨rfl, _, Try.underlying12, fun q h => (by cases h), fun n e h => (by cases h)⟩, exists_of_isSome (by kernel_rfl)⟩, ?_⟩
    trivial
theorem tyOk14 : TIOk Try.prog 14 ⟨.st [⟨0, 1, false⟩, ⟨1, 1, false⟩], 2, 24, [.d (.v (.string ⟨#[]⟩)), .d (.v (.int .u64 0))]⟩ := by
  refine tiok_of (z := (.agg #[.string ⟨#[]⟩, .int .u64 0] : Value)) (by kernel_rfl) (by kernel_rfl) (by kernel_rfl) (by simp [ZsOk, ZOk, sc, Value.cells]) rfl (by decide) ?_ ?_ ?_
  · exact fun h => (by cases h)
  · exact fun _ => ⟨_, rfl⟩
  · refine ⟨_, Try.underlying14, ?_⟩
    refine ⟨⟨rfl, by kernel_rfl, by decide, fun h => (by cases h), fun _ => ⟨rfl, _, Try.underlying9, fun q h => (by cases h), fun n e h => (by cases h)⟩, exists_of_isSome (by kernel_rfl)⟩, ?_⟩
    refine ⟨⟨rfl, by kernel_rfl, by decide, fun h => (by cases h), fun _ => ⟨rfl, _, Try.underlying12, fun q h => (by cases h), fun n e h => (by cases h)⟩, exists_of_isSome (by kernel_rfl)⟩, ?_⟩
    trivial
theorem tyOk18 : TIOk Try.prog 18 ⟨.st [⟨0, 1, false⟩], 1, 8, [.d (.v (.pointer none))]⟩ := by
  refine tiok_of (z := (.agg #[.pointer none] : Value)) (by kernel_rfl) (by kernel_rfl) (by kernel_rfl) (by simp [ZsOk, ZOk, sc, Value.cells]) rfl (by decide) ?_ ?_ ?_
  · exact fun h => (by cases h)
  · exact fun _ => ⟨_, rfl⟩
  · refine ⟨_, Try.underlying18, ?_⟩
    refine ⟨⟨rfl, by kernel_rfl, by decide, fun h => (by cases h), fun _ => ⟨rfl, _, Try.underlying17, fun q h => (by cases h), fun n e h => (by cases h)⟩, exists_of_isSome (by kernel_rfl)⟩, ?_⟩
    trivial
theorem tyOk19 : TIOk Try.prog 19 ⟨.st [⟨0, 1, false⟩], 1, 8, [.d (.v (.pointer none))]⟩ := by
  refine tiok_of (z := (.agg #[.pointer none] : Value)) (by kernel_rfl) (by kernel_rfl) (by kernel_rfl) (by simp [ZsOk, ZOk, sc, Value.cells]) rfl (by decide) ?_ ?_ ?_
  · exact fun h => (by cases h)
  · exact fun _ => ⟨_, rfl⟩
  · refine ⟨_, Try.underlying19, ?_⟩
    refine ⟨⟨rfl, by kernel_rfl, by decide, fun h => (by cases h), fun _ => ⟨rfl, _, Try.underlying17, fun q h => (by cases h), fun n e h => (by cases h)⟩, exists_of_isSome (by kernel_rfl)⟩, ?_⟩
    trivial
theorem tyOk21 : TIOk Try.prog 21 ⟨.one, 1, 4, [.d (.v (.int .i32 0))]⟩ := by
  refine tiok_of (z := (.int .i32 0 : Value)) (by kernel_rfl) (by kernel_rfl) (by kernel_rfl) (by simp [ZsOk, ZOk, sc, Value.cells]) rfl (by decide) ?_ ?_ ?_
  · exact fun _ => ⟨_, rfl, rfl⟩
  · exact fun h => (by cases h)
  · exact ⟨rfl, _, Try.underlying21, fun q h => (by cases h), fun n e h => (by cases h)⟩
theorem tyOk22 : TIOk Try.prog 22 ⟨.slc 42, 1, 24, [.nil]⟩ := by
  refine tiok_of (z := (.slice none 0 0 : Value)) (by kernel_rfl) (by kernel_rfl) (by kernel_rfl) (by simp [ZsOk, ZOk, sc, Value.cells]) rfl (by decide) ?_ ?_ ?_
  · exact fun _ => ⟨_, rfl, rfl⟩
  · exact fun h => (by cases h)
  · exact ⟨rfl, Try.underlying22⟩
theorem tyOk23 : TIOk Try.prog 23 ⟨.st [⟨0, 1, false⟩], 1, 24, [.nil]⟩ := by
  refine tiok_of (z := (.agg #[.slice none 0 0] : Value)) (by kernel_rfl) (by kernel_rfl) (by kernel_rfl) (by simp [ZsOk, ZOk, sc, Value.cells]) rfl (by decide) ?_ ?_ ?_
  · exact fun h => (by cases h)
  · exact fun _ => ⟨_, rfl⟩
  · refine ⟨_, Try.underlying23, ?_⟩
    refine ⟨⟨rfl, by kernel_rfl, by decide, fun h => (by cases h), fun _ => ⟨rfl, _, Try.underlying22, fun q h => (by cases h), fun n e h => (by cases h)⟩, exists_of_isSome (by kernel_rfl)⟩, ?_⟩
    trivial
theorem tyOk24 : TIOk Try.prog 24 ⟨.st [⟨0, 1, false⟩], 1, 24, [.nil]⟩ := by
  refine tiok_of (z := (.agg #[.slice none 0 0] : Value)) (by kernel_rfl) (by kernel_rfl) (by kernel_rfl) (by simp [ZsOk, ZOk, sc, Value.cells]) rfl (by decide) ?_ ?_ ?_
  · exact fun h => (by cases h)
  · exact fun _ => ⟨_, rfl⟩
  · refine ⟨_, Try.underlying24, ?_⟩
    refine ⟨⟨rfl, by kernel_rfl, by decide, fun h => (by cases h), fun _ => ⟨rfl, _, Try.underlying22, fun q h => (by cases h), fun n e h => (by cases h)⟩, exists_of_isSome (by kernel_rfl)⟩, ?_⟩
    trivial
theorem tyOk26 : TIOk Try.prog 26 ⟨.slc 3, 1, 24, [.nil]⟩ := by
  refine tiok_of (z := (.slice none 0 0 : Value)) (by kernel_rfl) (by kernel_rfl) (by kernel_rfl) (by simp [ZsOk, ZOk, sc, Value.cells]) rfl (by decide) ?_ ?_ ?_
  · exact fun _ => ⟨_, rfl, rfl⟩
  · exact fun h => (by cases h)
  · exact ⟨rfl, Try.underlying26⟩
theorem tyOk28 : TIOk Try.prog 28 ⟨.slc 49, 1, 24, [.nil]⟩ := by
  refine tiok_of (z := (.slice none 0 0 : Value)) (by kernel_rfl) (by kernel_rfl) (by kernel_rfl) (by simp [ZsOk, ZOk, sc, Value.cells]) rfl (by decide) ?_ ?_ ?_
  · exact fun _ => ⟨_, rfl, rfl⟩
  · exact fun h => (by cases h)
  · exact ⟨rfl, Try.underlying28⟩
theorem tyOk29 : TIOk Try.prog 29 ⟨.st [⟨0, 1, false⟩], 1, 24, [.nil]⟩ := by
  refine tiok_of (z := (.agg #[.slice none 0 0] : Value)) (by kernel_rfl) (by kernel_rfl) (by kernel_rfl) (by simp [ZsOk, ZOk, sc, Value.cells]) rfl (by decide) ?_ ?_ ?_
  · exact fun h => (by cases h)
  · exact fun _ => ⟨_, rfl⟩
  · refine ⟨_, Try.underlying29, ?_⟩
    refine ⟨⟨rfl, by kernel_rfl, by decide, fun h => (by cases h), fun _ => ⟨rfl, _, Try.underlying28, fun q h => (by cases h), fun n e h => (by cases h)⟩, exists_of_isSome (by kernel_rfl)⟩, ?_⟩
    trivial
theorem tyOk30 : TIOk Try.prog 30 ⟨.st [⟨0, 1, false⟩], 1, 24, [.nil]⟩ := by
  refine tiok_of (z := (.agg #[.slice none 0 0] : Value)) (by kernel_rfl) (by kernel_rfl) (by kernel_rfl) (by simp [ZsOk, ZOk, sc, Value.cells]) rfl (by decide) ?_ ?_ ?_
  · exact fun h => (by cases h)
  · exact fun _ => ⟨_, rfl⟩
  · refine ⟨_, Try.underlying30, ?_⟩
    refine ⟨⟨rfl, by kernel_rfl, by decide, fun h => (by cases h), fun _ => ⟨rfl, _, Try.underlying28, fun q h => (by cases h), fun n e h => (by cases h)⟩, exists_of_isSome (by kernel_rfl)⟩, ?_⟩
    trivial
theorem tyOk37 : TIOk Try.prog 37 ⟨.slc 9, 1, 24, [.nil]⟩ := by
  refine tiok_of (z := (.slice none 0 0 : Value)) (by kernel_rfl) (by kernel_rfl) (by kernel_rfl) (by simp [ZsOk, ZOk, sc, Value.cells]) rfl (by decide) ?_ ?_ ?_
  · exact fun _ => ⟨_, rfl, rfl⟩
  · exact fun h => (by cases h)
  · exact ⟨rfl, Try.underlying37⟩
theorem tyOk38 : TIOk Try.prog 38 ⟨.slc 40, 1, 24, [.nil]⟩ := by
  refine tiok_of (z := (.slice none 0 0 : Value)) (by kernel_rfl) (by kernel_rfl) (by kernel_rfl) (by simp [ZsOk, ZOk, sc, Value.cells]) rfl (by decide) ?_ ?_ ?_
  · exact fun _ => ⟨_, rfl, rfl⟩
  · exact fun h => (by cases h)
  · exact ⟨rfl, Try.underlying38⟩
theorem tyOk39 : TIOk Try.prog 39 ⟨.st [⟨0, 1, false⟩, ⟨1, 1, false⟩, ⟨2, 1, false⟩], 3, 48, [.d (.v (.int .i64 0)), .d (.v (.string ⟨#[]⟩)), .nil]⟩ := by
  refine tiok_of (z := (.agg #[.int .i64 0, .string ⟨#[]⟩, .slice none 0 0] : Value)) (by kernel_rfl) (by kernel_rfl) (by kernel_rfl) (by simp [ZsOk, ZOk, sc, Value.cells]) rfl (by decide) ?_ ?_ ?_
  · exact fun h => (by cases h)
  · exact fun _ => ⟨_, rfl⟩
  · refine ⟨_, Try.underlying39, ?_⟩
    refine ⟨⟨rfl, by kernel_rfl, by decide, fun h => (by cases h), fun _ => ⟨rfl, _, Try.underlying3, fun q h => (by cases h), fun n e h => (by cases h)⟩, exists_of_isSome (by kernel_rfl)⟩, ?_⟩
    refine ⟨⟨rfl, by kernel_rfl, by decide, fun h => (by cases h), fun _ => ⟨rfl, _, Try.underlying9, fun q h => (by cases h), fun n e h => (by cases h)⟩, exists_of_isSome (by kernel_rfl)⟩, ?_⟩
    refine ⟨⟨rfl, by kernel_rfl, by decide, fun h => (by cases h), fun _ => ⟨rfl, _, Try.underlying38, fun q h => (by cases h), fun n e h => (by cases h)⟩, exists_of_isSome (by kernel_rfl)⟩, ?_⟩
    trivial
theorem tyOk40 : TIOk Try.prog 40 ⟨.st [⟨0, 1, false⟩, ⟨1, 1, false⟩, ⟨2, 1, false⟩], 3, 48, [.d (.v (.int .i64 0)), .d (.v (.string ⟨#[]⟩)), .nil]⟩ := by
  refine tiok_of (z := (.agg #[.int .i64 0, .string ⟨#[]⟩, .slice none 0 0] : Value)) (by kernel_rfl) (by kernel_rfl) (by kernel_rfl) (by simp [ZsOk, ZOk, sc, Value.cells]) rfl (by decide) ?_ ?_ ?_
  · exact fun h => (by cases h)
  · exact fun _ => ⟨_, rfl⟩
  · refine ⟨_, Try.underlying40, ?_⟩
    refine ⟨⟨rfl, by kernel_rfl, by decide, fun h => (by cases h), fun _ => ⟨rfl, _, Try.underlying3, fun q h => (by cases h), fun n e h => (by cases h)⟩, exists_of_isSome (by kernel_rfl)⟩, ?_⟩
    refine ⟨⟨rfl, by kernel_rfl, by decide, fun h => (by cases h), fun _ => ⟨rfl, _, Try.underlying9, fun q h => (by cases h), fun n e h => (by cases h)⟩, exists_of_isSome (by kernel_rfl)⟩, ?_⟩
    refine ⟨⟨rfl, by kernel_rfl, by decide, fun h => (by cases h), fun _ => ⟨rfl, _, Try.underlying38, fun q h => (by cases h), fun n e h => (by cases h)⟩, exists_of_isSome (by kernel_rfl)⟩, ?_⟩
    trivial
theorem tyOk41 : TIOk Try.prog 41 ⟨.st [⟨0, 1, false⟩, ⟨1, 1, false⟩, ⟨2, 1, false⟩, ⟨3, 1, false⟩, ⟨4, 3, true⟩], 7, 128, [.d (.v (.string ⟨#[]⟩)), .d (.v (.string ⟨#[]⟩)), .nil, .nil, .d (.v (.int .i64 0)), .d (.v (.string ⟨#[]⟩)), .nil]⟩ := by
  refine tiok_of (z := (.agg #[.string ⟨#[]⟩, .string ⟨#[]⟩, .slice none 0 0, .slice none 0 0, .int .i64 0, .string ⟨#[]⟩, .slice none 0 0] : Value)) (by kernel_rfl) (by kernel_rfl) (by kernel_rfl) (by simp [ZsOk, ZOk, sc, Value.cells]) rfl (by decide) ?_ ?_ ?_
  · exact fun h => (by cases h)
  · exact fun _ => ⟨_, rfl⟩
  · refine ⟨_, Try.underlying41, ?_⟩
    refine ⟨⟨rfl, by kernel_rfl, by decide, fun h => (by cases h), fun _ => ⟨rfl, _, Try.underlying9, fun q h => (by cases h), fun n e h => (by cases h)⟩, exists_of_isSome (by kernel_rfl)⟩, ?_⟩
    refine ⟨⟨rfl, by kernel_rfl, by decide, fun h => (by cases h), fun _ => ⟨rfl, _, Try.underlying9, fun q h => (by cases h), fun n e h => (by cases h)⟩, exists_of_isSome (by kernel_rfl)⟩, ?_⟩
    refine ⟨⟨rfl, by kernel_rfl, by decide, fun h => (by cases h), fun _ => ⟨rfl, _, Try.underlying37, fun q h => (by cases h), fun n e h => (by cases h)⟩, exists_of_isSome (by kernel_rfl)⟩, ?_⟩
    refine ⟨⟨rfl, by kernel_rfl, by decide, fun h => (by cases h), fun _ => ⟨rfl, _, Try.underlying37, fun q h => (by cases h), fun n e h => (by cases h)⟩, exists_of_isSome (by kernel_rfl)⟩, ?_⟩
    refine ⟨⟨rfl, by kernel_rfl, by decide, fun _ => ⟨_, Try.underlying40⟩, fun h => (by cases h), exists_of_isSome (by kernel_rfl)⟩, ?_⟩
    trivial
theorem tyOk42 : TIOk Try.prog 42 ⟨.st [⟨0, 1, false⟩, ⟨1, 1, false⟩, ⟨2, 1, false⟩, ⟨3, 1, false⟩, ⟨4, 3, true⟩], 7, 128, [.d (.v (.string ⟨#[]⟩)), .d (.v (.string ⟨#[]⟩)), .nil, .nil, .d (.v (.int .i64 0)), .d (.v (.string ⟨#[]⟩)), .nil]⟩ := by
  refine tiok_of (z := (.agg #[.string ⟨#[]⟩, .string ⟨#[]⟩, .slice none 0 0, .slice none 0 0, .int .i64 0, .string ⟨#[]⟩, .slice none 0 0] : Value)) (by kernel_rfl) (by kernel_rfl) (by kernel_rfl) (by simp [ZsOk, ZOk, sc, Value.cells]) rfl (by decide) ?_ ?_ ?_
  · exact fun h => (by cases h)
  · exact fun _ => ⟨_, rfl⟩
  · refine ⟨_, Try.underlying42, ?_⟩
    refine ⟨⟨rfl, by kernel_rfl, by decide, fun h => (by cases h), fun _ => ⟨rfl, _, Try.underlying9, fun q h => (by cases h), fun n e h => (by cases h)⟩, exists_of_isSome (by kernel_rfl)⟩, ?_⟩
    refine ⟨⟨rfl, by kernel_rfl, by decide, fun h => (by cases h), fun _ => ⟨rfl, _, Try.underlying9, fun q h => (by cases h), fun n e h => (by cases h)⟩, exists_of_isSome (by kernel_rfl)⟩, ?_⟩
    refine ⟨⟨rfl, by kernel_rfl, by decide, fun h => (by cases h), fun _ => ⟨rfl, _, Try.underlying37, fun q h => (by cases h), fun n e h => (by cases h)⟩, exists_of_isSome (by kernel_rfl)⟩, ?_⟩
    refine ⟨⟨rfl, by kernel_rfl, by decide, fun h => (by cases h), fun _ => ⟨rfl, _, Try.underlying37, fun q h => (by cases h), fun n e h => (by cases h)⟩, exists_of_isSome (by kernel_rfl)⟩, ?_⟩
    refine ⟨⟨rfl, by kernel_rfl, by decide, fun _ => ⟨_, Try.underlying40⟩, fun h => (by cases h), exists_of_isSome (by kernel_rfl)⟩, ?_⟩
    trivial
theorem tyOk45 : TIOk Try.prog 45 ⟨.slc 47, 1, 24, [.nil]⟩ := by
  refine tiok_of (z := (.slice none 0 0 : Value)) (by kernel_rfl) (by kernel_rfl) (by kernel_rfl) (by simp [ZsOk, ZOk, sc, Value.cells]) rfl (by decide) ?_ ?_ ?_
  · exact fun _ => ⟨_, rfl, rfl⟩
  · exact fun h => (by cases h)
  · exact ⟨rfl, Try.underlying45⟩
theorem tyOk46 : TIOk Try.prog 46 ⟨.st [⟨0, 1, false⟩, ⟨1, 1, false⟩, ⟨2, 1, false⟩], 3, 48, [.d (.v (.int .i64 0)), .d (.v (.string ⟨#[]⟩)), .nil]⟩ := by
  refine tiok_of (z := (.agg #[.int .i64 0, .string ⟨#[]⟩, .slice none 0 0] : Value)) (by kernel_rfl) (by kernel_rfl) (by kernel_rfl) (by simp [ZsOk, ZOk, sc, Value.cells]) rfl (by decide) ?_ ?_ ?_
  · exact fun h => (by cases h)
  · exact fun _ => ⟨_, rfl⟩
  · refine ⟨_, Try.underlying46, ?_⟩
    refine ⟨⟨rfl, by kernel_rfl, by decide, fun h => (by cases h), fun _ => ⟨rfl, _, Try.underlying3, fun q h => (by cases h), fun n e h => (by cases h)⟩, exists_of_isSome (by kernel_rfl)⟩, ?_⟩
    refine ⟨⟨rfl, by kernel_rfl, by decide, fun h => (by cases h), fun _ => ⟨rfl, _, Try.underlying9, fun q h => (by cases h), fun n e h => (by cases h)⟩, exists_of_isSome (by kernel_rfl)⟩, ?_⟩
    refine ⟨⟨rfl, by kernel_rfl, by decide, fun h => (by cases h), fun _ => ⟨rfl, _, Try.underlying45, fun q h => (by cases h), fun n e h => (by cases h)⟩, exists_of_isSome (by kernel_rfl)⟩, ?_⟩
    trivial
theorem tyOk47 : TIOk Try.prog 47 ⟨.st [⟨0, 1, false⟩, ⟨1, 1, false⟩, ⟨2, 1, false⟩], 3, 48, [.d (.v (.int .i64 0)), .d (.v (.string ⟨#[]⟩)), .nil]⟩ := by
  refine tiok_of (z := (.agg #[.int .i64 0, .string ⟨#[]⟩, .slice none 0 0] : Value)) (by kernel_rfl) (by kernel_rfl) (by kernel_rfl) (by simp [ZsOk, ZOk, sc, Value.cells]) rfl (by decide) ?_ ?_ ?_
  · exact fun h => (by cases h)
  · exact fun _ => ⟨_, rfl⟩
  · refine ⟨_, Try.underlying47, ?_⟩
    refine ⟨⟨rfl, by kernel_rfl, by decide, fun h => (by cases h), fun _ => ⟨rfl, _, Try.underlying3, fun q h => (by cases h), fun n e h => (by cases h)⟩, exists_of_isSome (by kernel_rfl)⟩, ?_⟩
    refine ⟨⟨rfl, by kernel_rfl, by decide, fun h => (by cases h), fun _ => ⟨rfl, _, Try.underlying9, fun q h => (by cases h), fun n e h => (by cases h)⟩, exists_of_isSome (by kernel_rfl)⟩, ?_⟩
    refine ⟨⟨rfl, by kernel_rfl, by decide, fun h => (by cases h), fun _ => ⟨rfl, _, Try.underlying45, fun q h => (by cases h), fun n e h => (by cases h)⟩, exists_of_isSome (by kernel_rfl)⟩, ?_⟩
    trivial
theorem tyOk48 : TIOk Try.prog 48 ⟨.st [⟨0, 1, false⟩, ⟨1, 1, false⟩, ⟨2, 1, false⟩, ⟨3, 1, false⟩, ⟨4, 3, true⟩], 7, 128, [.d (.v (.string ⟨#[]⟩)), .d (.v (.string ⟨#[]⟩)), .nil, .nil, .d (.v (.int .i64 0)), .d (.v (.string ⟨#[]⟩)), .nil]⟩ := by
  refine tiok_of (z := (.agg #[.string ⟨#[]⟩, .string ⟨#[]⟩, .slice none 0 0, .slice none 0 0, .int .i64 0, .string ⟨#[]⟩, .slice none 0 0] : Value)) (by kernel_rfl) (by kernel_rfl) (by kernel_rfl) (by simp [ZsOk, ZOk, sc, Value.cells]) rfl (by decide) ?_ ?_ ?_
  · exact fun h => (by cases h)
  · exact fun _ => ⟨_, rfl⟩
  · refine ⟨_, Try.underlying48, ?_⟩
    refine ⟨⟨rfl, by kernel_rfl, by decide, fun h => (by cases h), fun _ => ⟨rfl, _, Try.underlying9, fun q h => (by cases h), fun n e h => (by cases h)⟩, exists_of_isSome (by kernel_rfl)⟩, ?_⟩
    refine ⟨⟨rfl, by kernel_rfl, by decide, fun h => (by cases h), fun _ => ⟨rfl, _, Try.underlying9, fun q h => (by cases h), fun n e h => (by cases h)⟩, exists_of_isSome (by kernel_rfl)⟩, ?_⟩
    refine ⟨⟨rfl, by kernel_rfl, by decide, fun h => (by cases h), fun _ => ⟨rfl, _, Try.underlying37, fun q h => (by cases h), fun n e h => (by cases h)⟩, exists_of_isSome (by kernel_rfl)⟩, ?_⟩
    refine ⟨⟨rfl, by kernel_rfl, by decide, fun h => (by cases h), fun _ => ⟨rfl, _, Try.underlying37, fun q h => (by cases h), fun n e h => (by cases h)⟩, exists_of_isSome (by kernel_rfl)⟩, ?_⟩
    refine ⟨⟨rfl, by kernel_rfl, by decide, fun _ => ⟨_, Try.underlying47⟩, fun h => (by cases h), exists_of_isSome (by kernel_rfl)⟩, ?_⟩
    trivial
theorem tyOk49 : TIOk Try.prog 49 ⟨.st [⟨0, 1, false⟩, ⟨1, 1, false⟩, ⟨2, 1, false⟩, ⟨3, 1, false⟩, ⟨4, 3, true⟩], 7, 128, [.d (.v (.string ⟨#[]⟩)), .d (.v (.string ⟨#[]⟩)), .nil, .nil, .d (.v (.int .i64 0)), .d (.v (.string ⟨#[]⟩)), .nil]⟩ := by
  refine tiok_of (z := (.agg #[.string ⟨#[]⟩, .string ⟨#[]⟩, .slice none 0 0, .slice none 0 0, .int .i64 0, .string ⟨#[]⟩, .slice none 0 0] : Value)) (by kernel_rfl) (by kernel_rfl) (by kernel_rfl) (by simp [ZsOk, ZOk, sc, Value.cells]) rfl (by decide) ?_ ?_ ?_
  · exact fun h => (by cases h)
  · exact fun _ => ⟨_, rfl⟩
  · refine ⟨_, Try.underlying49, ?_⟩
    refine ⟨⟨rfl, by kernel_rfl, by decide, fun h => (by cases h), fun _ => ⟨rfl, _, Try.underlying9, fun q h => (by cases h), fun n e h => (by cases h)⟩, exists_of_isSome (by kernel_rfl)⟩, ?_⟩
    refine ⟨⟨rfl, by kernel_rfl, by decide, fun h => (by cases h), fun _ => ⟨rfl, _, Try.underlying9, fun q h => (by cases h), fun n e h => (by cases h)⟩, exists_of_isSome (by kernel_rfl)⟩, ?_⟩
    refine ⟨⟨rfl, by kernel_rfl, by decide, fun h => (by cases h), fun _ => ⟨rfl, _, Try.underlying37, fun q h => (by cases h), fun n e h => (by cases h)⟩, exists_of_isSome (by kernel_rfl)⟩, ?_⟩
    refine ⟨⟨rfl, by kernel_rfl, by decide, fun h => (by cases h), fun _ => ⟨rfl, _, Try.underlying37, fun q h => (by cases h), fun n e h => (by cases h)⟩, exists_of_isSome (by kernel_rfl)⟩, ?_⟩
    refine ⟨⟨rfl, by kernel_rfl, by decide, fun _ => ⟨_, Try.underlying47⟩, fun h => (by cases h), exists_of_isSome (by kernel_rfl)⟩, ?_⟩
    trivial
theorem tyOk58 : TIOk Try.prog 58 ⟨.slc 26, 1, 24, [.nil]⟩ := by
  refine tiok_of (z := (.slice none 0 0 : Value)) (by kernel_rfl) (by kernel_rfl) (by kernel_rfl) (by simp [ZsOk, ZOk, sc, Value.cells]) rfl (by decide) ?_ ?_ ?_
  · exact fun _ => ⟨_, rfl, rfl⟩
  · exact fun h => (by cases h)
  · exact ⟨rfl, Try.underlying58⟩
theorem tyOk59 : TIOk Try.prog 59 ⟨.st [⟨0, 1, false⟩, ⟨1, 1, false⟩, ⟨2, 1, false⟩, ⟨3, 1, false⟩, ⟨4, 1, false⟩, ⟨5, 1, false⟩, ⟨6, 1, false⟩], 7, 152, [.nil, .nil, .nil, .nil, .nil, .nil, .d (.v (.int .i64 0))]⟩ := by
  refine tiok_of (z := (.agg #[.slice none 0 0, .slice none 0 0, .slice none 0 0, .slice none 0 0, .slice none 0 0, .slice none 0 0, .int .i64 0] : Value)) (by kernel_rfl) (by kernel_rfl) (by kernel_rfl) (by simp [ZsOk, ZOk, sc, Value.cells]) rfl (by decide) ?_ ?_ ?_
  · exact fun h => (by cases h)
  · exact fun _ => ⟨_, rfl⟩
  · refine ⟨_, Try.underlying59, ?_⟩
    refine ⟨⟨rfl, by kernel_rfl, by decide, fun h => (by cases h), fun _ => ⟨rfl, _, Try.underlying37, fun q h => (by cases h), fun n e h => (by cases h)⟩, exists_of_isSome (by kernel_rfl)⟩, ?_⟩
    refine ⟨⟨rfl, by kernel_rfl, by decide, fun h => (by cases h), fun _ => ⟨rfl, _, Try.underlying26, fun q h => (by cases h), fun n e h => (by cases h)⟩, exists_of_isSome (by kernel_rfl)⟩, ?_⟩
    refine ⟨⟨rfl, by kernel_rfl, by decide, fun h => (by cases h), fun _ => ⟨rfl, _, Try.underlying58, fun q h => (by cases h), fun n e h => (by cases h)⟩, exists_of_isSome (by kernel_rfl)⟩, ?_⟩
    refine ⟨⟨rfl, by kernel_rfl, by decide, fun h => (by cases h), fun _ => ⟨rfl, _, Try.underlying37, fun q h => (by cases h), fun n e h => (by cases h)⟩, exists_of_isSome (by kernel_rfl)⟩, ?_⟩
    refine ⟨⟨rfl, by kernel_rfl, by decide, fun h => (by cases h), fun _ => ⟨rfl, _, Try.underlying58, fun q h => (by cases h), fun n e h => (by cases h)⟩, exists_of_isSome (by kernel_rfl)⟩, ?_⟩
    refine ⟨⟨rfl, by kernel_rfl, by decide, fun h => (by cases h), fun _ => ⟨rfl, _, Try.underlying26, fun q h => (by cases h), fun n e h => (by cases h)⟩, exists_of_isSome (by kernel_rfl)⟩, ?_⟩
    refine ⟨⟨rfl, by kernel_rfl, by decide, fun h => (by cases h), fun _ => ⟨rfl, _, Try.underlying3, fun q h => (by cases h), fun n e h => (by cases h)⟩, exists_of_isSome (by kernel_rfl)⟩, ?_⟩
    trivial
theorem tyOk60 : TIOk Try.prog 60 ⟨.st [⟨0, 1, false⟩, ⟨1, 1, false⟩, ⟨2, 1, false⟩, ⟨3, 1, false⟩, ⟨4, 1, false⟩, ⟨5, 1, false⟩, ⟨6, 1, false⟩], 7, 152, [.nil, .nil, .nil, .nil, .nil, .nil, .d (.v (.int .i64 0))]⟩ := by
  refine tiok_of (z := (.agg #[.slice none 0 0, .slice none 0 0, .slice none 0 0, .slice none 0 0, .slice none 0 0, .slice none 0 0, .int .i64 0] : Value)) (by kernel_rfl) (by kernel_rfl) (by kernel_rfl) (by simp [ZsOk, ZOk, sc, Value.cells]) rfl (by decide) ?_ ?_ ?_
  · exact fun h => (by cases h)
  · exact fun _ => ⟨_, rfl⟩
  · refine ⟨_, Try.underlying60, ?_⟩
    refine ⟨⟨rfl, by kernel_rfl, by decide, fun h => (by cases h), fun _ => ⟨rfl, _, Try.underlying37, fun q h => (by cases h), fun n e h => (by cases h)⟩, exists_of_isSome (by kernel_rfl)⟩, ?_⟩
    refine ⟨⟨rfl, by kernel_rfl, by decide, fun h => (by cases h), fun _ => ⟨rfl, _, Try.underlying26, fun q h => (by cases h), fun n e h => (by cases h)⟩, exists_of_isSome (by kernel_rfl)⟩, ?_⟩
    refine ⟨⟨rfl, by kernel_rfl, by decide, fun h => (by cases h), fun _ => ⟨rfl, _, Try.underlying58, fun q h => (by cases h), fun n e h => (by cases h)⟩, exists_of_isSome (by kernel_rfl)⟩, ?_⟩
    refine ⟨⟨rfl, by kernel_rfl, by decide, fun h => (by cases h), fun _ => ⟨rfl, _, Try.underlying37, fun q h => (by cases h), fun n e h => (by cases h)⟩, exists_of_isSome (by kernel_rfl)⟩, ?_⟩
    refine ⟨⟨rfl, by kernel_rfl, by decide, fun h => (by cases h), fun _ => ⟨rfl, _, Try.underlying58, fun q h => (by cases h), fun n e h => (by cases h)⟩, exists_of_isSome (by kernel_rfl)⟩, ?_⟩
    refine ⟨⟨rfl, by kernel_rfl, by decide, fun h => (by cases h), fun _ => ⟨rfl, _, Try.underlying26, fun q h => (by cases h), fun n e h => (by cases h)⟩, exists_of_isSome (by kernel_rfl)⟩, ?_⟩
    refine ⟨⟨rfl, by kernel_rfl, by decide, fun h => (by cases h), fun _ => ⟨rfl, _, Try.underlying3, fun q h => (by cases h), fun n e h => (by cases h)⟩, exists_of_isSome (by kernel_rfl)⟩, ?_⟩
    trivial
theorem tyOk63 : TIOk Try.prog 63 ⟨.st [⟨0, 1, false⟩, ⟨1, 1, false⟩, ⟨2, 1, false⟩, ⟨3, 1, false⟩, ⟨4, 1, false⟩, ⟨5, 1, false⟩, ⟨6, 1, false⟩], 7, 152, [.nil, .nil, .nil, .nil, .nil, .nil, .d (.v (.int .i64 0))]⟩ := by
  refine tiok_of (z := (.agg #[.slice none 0 0, .slice none 0 0, .slice none 0 0, .slice none 0 0, .slice none 0 0, .slice none 0 0, .int .i64 0] : Value)) (by kernel_rfl) (by kernel_rfl) (by kernel_rfl) (by simp [ZsOk, ZOk, sc, Value.cells]) rfl (by decide) ?_ ?_ ?_
  · exact fun h => (by cases h)
  · exact fun _ => ⟨_, rfl⟩
  · refine ⟨_, Try.underlying63, ?_⟩
    refine ⟨⟨rfl, by kernel_rfl, by decide, fun h => (by cases h), fun _ => ⟨rfl, _, Try.underlying37, fun q h => (by cases h), fun n e h => (by cases h)⟩, exists_of_isSome (by kernel_rfl)⟩, ?_⟩
    refine ⟨⟨rfl, by kernel_rfl, by decide, fun h => (by cases h), fun _ => ⟨rfl, _, Try.underlying26, fun q h => (by cases h), fun n e h => (by cases h)⟩, exists_of_isSome (by kernel_rfl)⟩, ?_⟩
    refine ⟨⟨rfl, by kernel_rfl, by decide, fun h => (by cases h), fun _ => ⟨rfl, _, Try.underlying58, fun q h => (by cases h), fun n e h => (by cases h)⟩, exists_of_isSome (by kernel_rfl)⟩, ?_⟩
    refine ⟨⟨rfl, by kernel_rfl, by decide, fun h => (by cases h), fun _ => ⟨rfl, _, Try.underlying37, fun q h => (by cases h), fun n e h => (by cases h)⟩, exists_of_isSome (by kernel_rfl)⟩, ?_⟩
    refine ⟨⟨rfl, by kernel_rfl, by decide, fun h => (by cases h), fun _ => ⟨rfl, _, Try.underlying58, fun q h => (by cases h), fun n e h => (by cases h)⟩, exists_of_isSome (by kernel_rfl)⟩, ?_⟩
    refine ⟨⟨rfl, by kernel_rfl, by decide, fun h => (by cases h), fun _ => ⟨rfl, _, Try.underlying26, fun q h => (by cases h), fun n e h => (by cases h)⟩, exists_of_isSome (by kernel_rfl)⟩, ?_⟩
    refine ⟨⟨rfl, by kernel_rfl, by decide, fun h => (by cases h), fun _ => ⟨rfl, _, Try.underlying3, fun q h => (by cases h), fun n e h => (by cases h)⟩, exists_of_isSome (by kernel_rfl)⟩, ?_⟩
    trivial
theorem tyOk72 : TIOk Try.prog 72 ⟨.slc 37, 1, 24, [.nil]⟩ := by
  refine tiok_of (z := (.slice none 0 0 : Value)) (by kernel_rfl) (by kernel_rfl) (by kernel_rfl) (by simp [ZsOk, ZOk, sc, Value.cells]) rfl (by decide) ?_ ?_ ?_
  · exact fun _ => ⟨_, rfl, rfl⟩
  · exact fun h => (by cases h)
  · exact ⟨rfl, Try.underlying72⟩
theorem tyOk76 : TIOk Try.prog 76 ⟨.slc 112, 1, 24, [.nil]⟩ := by
  refine tiok_of (z := (.slice none 0 0 : Value)) (by kernel_rfl) (by kernel_rfl) (by kernel_rfl) (by simp [ZsOk, ZOk, sc, Value.cells]) rfl (by decide) ?_ ?_ ?_
  · exact fun _ => ⟨_, rfl, rfl⟩
  · exact fun h => (by cases h)
  · exact ⟨rfl, Try.underlying76⟩
theorem tyOk79 : TIOk Try.prog 79 ⟨.slc 118, 1, 24, [.nil]⟩ := by
  refine tiok_of (z := (.slice none 0 0 : Value)) (by kernel_rfl) (by kernel_rfl) (by kernel_rfl) (by simp [ZsOk, ZOk, sc, Value.cells]) rfl (by decide) ?_ ?_ ?_
  · exact fun _ => ⟨_, rfl, rfl⟩
  · exact fun h => (by cases h)
  · exact ⟨rfl, Try.underlying79⟩
theorem tyOk111 : TIOk Try.prog 111 ⟨.st [⟨0, 1, false⟩, ⟨1, 1, false⟩], 2, 24, [.d (.v (.string ⟨#[]⟩)), .d (.v (.int .i64 0))]⟩ := by
  refine tiok_of (z := (.agg #[.string ⟨#[]⟩, .int .i64 0] : Value)) (by kernel_rfl) (by kernel_rfl) (by kernel_rfl) (by simp [ZsOk, ZOk, sc, Value.cells]) rfl (by decide) ?_ ?_ ?_
  · exact fun h => (by cases h)
  · exact fun _ => ⟨_, rfl⟩
  · refine ⟨_, Try.underlying111, ?_⟩
    refine ⟨⟨rfl, by kernel_rfl, by decide, fun h => (by cases h), fun _ => ⟨rfl, _, Try.underlying9, fun q h => (by cases h), fun n e h => (by cases h)⟩, exists_of_isSome (by kernel_rfl)⟩, ?_⟩
    refine ⟨⟨rfl, by kernel_rfl, by decide, fun h => (by cases h), fun _ => ⟨rfl, _, Try.underlying3, fun q h => (by cases h), fun n e h => (by cases h)⟩, exists_of_isSome (by kernel_rfl)⟩, ?_⟩
    trivial
theorem tyOk112 : TIOk Try.prog 112 ⟨.st [⟨0, 1, false⟩, ⟨1, 1, false⟩], 2, 24, [.d (.v (.string ⟨#[]⟩)), .d (.v (.int .i64 0))]⟩ := by
  refine tiok_of (z := (.agg #[.string ⟨#[]⟩, .int .i64 0] : Value)) (by kernel_rfl) (by kernel_rfl) (by kernel_rfl) (by simp [ZsOk, ZOk, sc, Value.cells]) rfl (by decide) ?_ ?_ ?_
  · exact fun h => (by cases h)
  · exact fun _ => ⟨_, rfl⟩
  · refine ⟨_, Try.underlying112, ?_⟩
    refine ⟨⟨rfl, by kernel_rfl, by decide, fun h => (by cases h), fun _ => ⟨rfl, _, Try.underlying9, fun q h => (by cases h), fun n e h => (by cases h)⟩, exists_of_isSome (by kernel_rfl)⟩, ?_⟩
    refine ⟨⟨rfl, by kernel_rfl, by decide, fun h => (by cases h), fun _ => ⟨rfl, _, Try.underlying3, fun q h => (by cases h), fun n e h => (by cases h)⟩, exists_of_isSome (by kernel_rfl)⟩, ?_⟩
    trivial
theorem tyOk116 : TIOk Try.prog 116 ⟨.slc 45, 1, 24, [.nil]⟩ := by
  refine tiok_of (z := (.slice none 0 0 : Value)) (by kernel_rfl) (by kernel_rfl) (by kernel_rfl) (by simp [ZsOk, ZOk, sc, Value.cells]) rfl (by decide) ?_ ?_ ?_
  · exact fun _ => ⟨_, rfl, rfl⟩
  · exact fun h => (by cases h)
  · exact ⟨rfl, Try.underlying116⟩
theorem tyOk118 : TIOk Try.prog 118 ⟨.st [⟨0, 1, false⟩, ⟨1, 1, false⟩], 2, 24, [.d (.v (.string ⟨#[]⟩)), .d (.v (.int .i64 0))]⟩ := by
  refine tiok_of (z := (.agg #[.string ⟨#[]⟩, .int .i64 0] : Value)) (by kernel_rfl) (by kernel_rfl) (by kernel_rfl) (by simp [ZsOk, ZOk, sc, Value.cells]) rfl (by decide) ?_ ?_ ?_
  · exact fun h => (by cases h)
  · exact fun _ => ⟨_, rfl⟩
  · refine ⟨_, Try.underlying118, ?_⟩
    refine ⟨⟨rfl, by kernel_rfl, by decide, fun h => (by cases h), fun _ => ⟨rfl, _, Try.underlying9, fun q h => (by cases h), fun n e h => (by cases h)⟩, exists_of_isSome (by kernel_rfl)⟩, ?_⟩
    refine ⟨⟨rfl, by kernel_rfl, by decide, fun h => (by cases h), fun _ => ⟨rfl, _, Try.underlying3, fun q h => (by cases h), fun n e h => (by cases h)⟩, exists_of_isSome (by kernel_rfl)⟩, ?_⟩
    trivial
theorem tyOk130 : TIOk Try.prog 130 ⟨.slc 5, 1, 24, [.nil]⟩ := by
  refine tiok_of (z := (.slice none 0 0 : Value)) (by kernel_rfl) (by kernel_rfl) (by kernel_rfl) (by simp [ZsOk, ZOk, sc, Value.cells]) rfl (by decide) ?_ ?_ ?_
  · exact fun _ => ⟨_, rfl, rfl⟩
  · exact fun h => (by cases h)
  · exact ⟨rfl, Try.underlying130⟩
theorem tyOk141 : TIOk Try.prog 141 ⟨.st [⟨0, 1, false⟩, ⟨1, 1, false⟩, ⟨2, 1, false⟩, ⟨3, 1, false⟩], 4, 40, [.d (.v (.pointer none)), .d (.v (.pointer none)), .d (.v (.pointer none)), .d (.v (.string ⟨#[]⟩))]⟩ := by
  refine tiok_of (z := (.agg #[.pointer none, .pointer none, .pointer none, .string ⟨#[]⟩] : Value)) (by kernel_rfl) (by kernel_rfl) (by kernel_rfl) (by simp [ZsOk, ZOk, sc, Value.cells]) rfl (by decide) ?_ ?_ ?_
  · exact fun h => (by cases h)
  · exact fun _ => ⟨_, rfl⟩
  · refine ⟨_, Try.underlying141, ?_⟩
    refine ⟨⟨rfl, by kernel_rfl, by decide, fun h => (by cases h), fun _ => ⟨rfl, _, Try.underlying17, fun q h => (by cases h), fun n e h => (by cases h)⟩, exists_of_isSome (by kernel_rfl)⟩, ?_⟩
    refine ⟨⟨rfl, by kernel_rfl, by decide, fun h => (by cases h), fun _ => ⟨rfl, _, Try.underlying17, fun q h => (by cases h), fun n e h => (by cases h)⟩, exists_of_isSome (by kernel_rfl)⟩, ?_⟩
    refine ⟨⟨rfl, by kernel_rfl, by decide, fun h => (by cases h), fun _ => ⟨rfl, _, Try.underlying17, fun q h => (by cases h), fun n e h => (by cases h)⟩, exists_of_isSome (by kernel_rfl)⟩, ?_⟩
    refine ⟨⟨rfl, by kernel_rfl, by decide, fun h => (by cases h), fun _ => ⟨rfl, _, Try.underlying9, fun q h => (by cases h), fun n e h => (by cases h)⟩, exists_of_isSome (by kernel_rfl)⟩, ?_⟩
    trivial
theorem tyOk142 : TIOk Try.prog 142 ⟨.st [⟨0, 1, false⟩, ⟨1, 1, false⟩, ⟨2, 1, false⟩, ⟨3, 1, false⟩], 4, 40, [.d (.v (.pointer none)), .d (.v (.pointer none)), .d (.v (.pointer none)), .d (.v (.string ⟨#[]⟩))]⟩ := by
  refine tiok_of (z := (.agg #[.pointer none, .pointer none, .pointer none, .string ⟨#[]⟩] : Value)) (by kernel_rfl) (by kernel_rfl) (by kernel_rfl) (by simp [ZsOk, ZOk, sc, Value.cells]) rfl (by decide) ?_ ?_ ?_
  · exact fun h => (by cases h)
  · exact fun _ => ⟨_, rfl⟩
  · refine ⟨_, Try.underlying142, ?_⟩
    refine ⟨⟨rfl, by kernel_rfl, by decide, fun h => (by cases h), fun _ => ⟨rfl, _, Try.underlying17, fun q h => (by cases h), fun n e h => (by cases h)⟩, exists_of_isSome (by kernel_rfl)⟩, ?_⟩
    refine ⟨⟨rfl, by kernel_rfl, by decide, fun h => (by cases h), fun _ => ⟨rfl, _, Try.underlying17, fun q h => (by cases h), fun n e h => (by cases h)⟩, exists_of_isSome (by kernel_rfl)⟩, ?_⟩
    refine ⟨⟨rfl, by kernel_rfl, by decide, fun h => (by cases h), fun _ => ⟨rfl, _, Try.underlying17, fun q h => (by cases h), fun n e h => (by cases h)⟩, exists_of_isSome (by kernel_rfl)⟩, ?_⟩
    refine ⟨⟨rfl, by kernel_rfl, by decide, fun h => (by cases h), fun _ => ⟨rfl, _, Try.underlying9, fun q h => (by cases h), fun n e h => (by cases h)⟩, exists_of_isSome (by kernel_rfl)⟩, ?_⟩
    trivial
theorem tyOk147 : TIOk Try.prog 147 ⟨.one, 1, 4, [.d (.v (.int .u32 0))]⟩ := by
  refine tiok_of (z := (.int .u32 0 : Value)) (by kernel_rfl) (by kernel_rfl) (by kernel_rfl) (by simp [ZsOk, ZOk, sc, Value.cells]) rfl (by decide) ?_ ?_ ?_
  · exact fun _ => ⟨_, rfl, rfl⟩
  · exact fun h => (by cases h)
  · exact ⟨rfl, _, Try.underlying147, fun q h => (by cases h), fun n e h => (by cases h)⟩
theorem tyOk148 : TIOk Try.prog 148 ⟨.one, 1, 1, [.d (.v (.int .u8 0))]⟩ := by
  refine tiok_of (z := (.int .u8 0 : Value)) (by kernel_rfl) (by kernel_rfl) (by kernel_rfl) (by simp [ZsOk, ZOk, sc, Value.cells]) rfl (by decide) ?_ ?_ ?_
  · exact fun _ => ⟨_, rfl, rfl⟩
  · exact fun h => (by cases h)
  · exact ⟨rfl, _, Try.underlying148, fun q h => (by cases h), fun n e h => (by cases h)⟩
theorem tyOk149 : TIOk Try.prog 149 ⟨.one, 1, 1, [.d (.v (.int .u8 0))]⟩ := by
  refine tiok_of (z := (.int .u8 0 : Value)) (by kernel_rfl) (by kernel_rfl) (by kernel_rfl) (by simp [ZsOk, ZOk, sc, Value.cells]) rfl (by decide) ?_ ?_ ?_
  · exact fun _ => ⟨_, rfl, rfl⟩
  · exact fun h => (by cases h)
  · exact ⟨rfl, _, Try.underlying149, fun q h => (by cases h), fun n e h => (by cases h)⟩
theorem tyOk152 : TIOk Try.prog 152 ⟨.one, 1, 4, [.d (.v (.int .i32 0))]⟩ := by
  refine tiok_of (z := (.int .i32 0 : Value)) (by kernel_rfl) (by kernel_rfl) (by kernel_rfl) (by simp [ZsOk, ZOk, sc, Value.cells]) rfl (by decide) ?_ ?_ ?_
  · exact fun _ => ⟨_, rfl, rfl⟩
  · exact fun h => (by cases h)
  · exact ⟨rfl, _, Try.underlying152, fun q h => (by cases h), fun n e h => (by cases h)⟩
theorem tyOk153 : TIOk Try.prog 153 ⟨.one, 1, 4, [.d (.v (.int .i32 0))]⟩ := by
  refine tiok_of (z := (.int .i32 0 : Value)) (by kernel_rfl) (by kernel_rfl) (by kernel_rfl) (by simp [ZsOk, ZOk, sc, Value.cells]) rfl (by decide) ?_ ?_ ?_
  · exact fun _ => ⟨_, rfl, rfl⟩
  · exact fun h => (by cases h)
  · exact ⟨rfl, _, Try.underlying153, fun q h => (by cases h), fun n e h => (by cases h)⟩
theorem tyOk154 : TIOk Try.prog 154 ⟨.st [⟨0, 1, false⟩, ⟨1, 1, false⟩, ⟨2, 1, false⟩, ⟨3, 1, false⟩, ⟨4, 1, false⟩, ⟨5, 1, false⟩, ⟨6, 1, false⟩, ⟨7, 1, false⟩, ⟨8, 1, false⟩, ⟨9, 1, false⟩, ⟨10, 1, false⟩], 11, 48, [.d (.v (.int .u64 0)), .d (.v (.int .u64 0)), .d (.v (.int .u32 0)), .d (.v (.int .u8 0)), .d (.v (.int .u8 0)), .d (.v (.int .u8 0)), .d (.v (.int .u8 0)), .d (.v .nilFunc), .d (.v (.pointer none)), .d (.v (.int .i32 0)), .d (.v (.int .i32 0))]⟩ := by
  refine tiok_of (z := (.agg #[.int .u64 0, .int .u64 0, .int .u32 0, .int .u8 0, .int .u8 0, .int .u8 0, .int .u8 0, .nilFunc, .pointer none, .int .i32 0, .int .i32 0] : Value)) (by kernel_rfl) (by kernel_rfl) (by kernel_rfl) (by simp [ZsOk, ZOk, sc, Value.cells]) rfl (by decide) ?_ ?_ ?_
  · exact fun h => (by cases h)
  · exact fun _ => ⟨_, rfl⟩
  · refine ⟨_, Try.underlying154, ?_⟩
    refine ⟨⟨rfl, by kernel_rfl, by decide, fun h => (by cases h), fun _ => ⟨rfl, _, Try.underlying12, fun q h => (by cases h), fun n e h => (by cases h)⟩, exists_of_isSome (by kernel_rfl)⟩, ?_⟩
    refine ⟨⟨rfl, by kernel_rfl, by decide, fun h => (by cases h), fun _ => ⟨rfl, _, Try.underlying12, fun q h => (by cases h), fun n e h => (by cases h)⟩, exists_of_isSome (by kernel_rfl)⟩, ?_⟩
    refine ⟨⟨rfl, by kernel_rfl, by decide, fun h => (by cases h), fun _ => ⟨rfl, _, Try.underlying147, fun q h => (by cases h), fun n e h => (by cases h)⟩, exists_of_isSome (by kernel_rfl)⟩, ?_⟩
    refine ⟨⟨rfl, by kernel_rfl, by decide, fun h => (by cases h), fun _ => ⟨rfl, _, Try.underlying148, fun q h => (by cases h), fun n e h => (by cases h)⟩, exists_of_isSome (by kernel_rfl)⟩, ?_⟩
    refine ⟨⟨rfl, by kernel_rfl, by decide, fun h => (by cases h), fun _ => ⟨rfl, _, Try.underlying5, fun q h => (by cases h), fun n e h => (by cases h)⟩, exists_of_isSome (by kernel_rfl)⟩, ?_⟩
    refine ⟨⟨rfl, by kernel_rfl, by decide, fun h => (by cases h), fun _ => ⟨rfl, _, Try.underlying5, fun q h => (by cases h), fun n e h => (by cases h)⟩, exists_of_isSome (by kernel_rfl)⟩, ?_⟩
    refine ⟨⟨rfl, by kernel_rfl, by decide, fun h => (by cases h), fun _ => ⟨rfl, _, Try.underlying149, fun q h => (by cases h), fun n e h => (by cases h)⟩, exists_of_isSome (by kernel_rfl)⟩, ?_⟩
    refine ⟨⟨rfl, by kernel_rfl, by decide, fun h => (by cases h), fun _ => ⟨rfl, _, Try.underlying150, fun q h => (by cases h), fun n e h => (by cases h)⟩, exists_of_isSome (by kernel_rfl)⟩, ?_⟩
    refine ⟨⟨rfl, by kernel_rfl, by decide, fun h => (by cases h), fun _ => ⟨rfl, _, Try.underlying151, fun q h => (by cases h), fun n e h => (by cases h)⟩, exists_of_isSome (by kernel_rfl)⟩, ?_⟩
    refine ⟨⟨rfl, by kernel_rfl, by decide, fun h => (by cases h), fun _ => ⟨rfl, _, Try.underlying152, fun q h => (by cases h), fun n e h => (by cases h)⟩, exists_of_isSome (by kernel_rfl)⟩, ?_⟩
    refine ⟨⟨rfl, by kernel_rfl, by decide, fun h => (by cases h), fun _ => ⟨rfl, _, Try.underlying153, fun q h => (by cases h), fun n e h => (by cases h)⟩, exists_of_isSome (by kernel_rfl)⟩, ?_⟩
    trivial
theorem tyOk155 : TIOk Try.prog 155 ⟨.st [⟨0, 1, false⟩, ⟨1, 1, false⟩, ⟨2, 1, false⟩, ⟨3, 1, false⟩, ⟨4, 1, false⟩, ⟨5, 1, false⟩, ⟨6, 1, false⟩, ⟨7, 1, false⟩, ⟨8, 1, false⟩, ⟨9, 1, false⟩, ⟨10, 1, false⟩], 11, 48, [.d (.v (.int .u64 0)), .d (.v (.int .u64 0)), .d (.v (.int .u32 0)), .d (.v (.int .u8 0)), .d (.v (.int .u8 0)), .d (.v (.int .u8 0)), .d (.v (.int .u8 0)), .d (.v .nilFunc), .d (.v (.pointer none)), .d (.v (.int .i32 0)), .d (.v (.int .i32 0))]⟩ := by
  refine tiok_of (z := (.agg #[.int .u64 0, .int .u64 0, .int .u32 0, .int .u8 0, .int .u8 0, .int .u8 0, .int .u8 0, .nilFunc, .pointer none, .int .i32 0, .int .i32 0] : Value)) (by kernel_rfl) (by kernel_rfl) (by kernel_rfl) (by simp [ZsOk, ZOk, sc, Value.cells]) rfl (by decide) ?_ ?_ ?_
  · exact fun h => (by cases h)
  · exact fun _ => ⟨_, rfl⟩
  · refine ⟨_, Try.underlying155, ?_⟩
    refine ⟨⟨rfl, by kernel_rfl, by decide, fun h => (by cases h), fun _ => ⟨rfl, _, Try.underlying12, fun q h => (by cases h), fun n e h => (by cases h)⟩, exists_of_isSome (by kernel_rfl)⟩, ?_⟩
    refine ⟨⟨rfl, by kernel_rfl, by decide, fun h => (by cases h), fun _ => ⟨rfl, _, Try.underlying12, fun q h => (by cases h), fun n e h => (by cases h)⟩, exists_of_isSome (by kernel_rfl)⟩, ?_⟩
    refine ⟨⟨rfl, by kernel_rfl, by decide, fun h => (by cases h), fun _ => ⟨rfl, _, Try.underlying147, fun q h => (by cases h), fun n e h => (by cases h)⟩, exists_of_isSome (by kernel_rfl)⟩, ?_⟩
    refine ⟨⟨rfl, by kernel_rfl, by decide, fun h => (by cases h), fun _ => ⟨rfl, _, Try.underlying148, fun q h => (by cases h), fun n e h => (by cases h)⟩, exists_of_isSome (by kernel_rfl)⟩, ?_⟩
    refine ⟨⟨rfl, by kernel_rfl, by decide, fun h => (by cases h), fun _ => ⟨rfl, _, Try.underlying5, fun q h => (by cases h), fun n e h => (by cases h)⟩, exists_of_isSome (by kernel_rfl)⟩, ?_⟩
    refine ⟨⟨rfl, by kernel_rfl, by decide, fun h => (by cases h), fun _ => ⟨rfl, _, Try.underlying5, fun q h => (by cases h), fun n e h => (by cases h)⟩, exists_of_isSome (by kernel_rfl)⟩, ?_⟩
    refine ⟨⟨rfl, by kernel_rfl, by decide, fun h => (by cases h), fun _ => ⟨rfl, _, Try.underlying149, fun q h => (by cases h), fun n e h => (by cases h)⟩, exists_of_isSome (by kernel_rfl)⟩, ?_⟩
    refine ⟨⟨rfl, by kernel_rfl, by decide, fun h => (by cases h), fun _ => ⟨rfl, _, Try.underlying150, fun q h => (by cases h), fun n e h => (by cases h)⟩, exists_of_isSome (by kernel_rfl)⟩, ?_⟩
    refine ⟨⟨rfl, by kernel_rfl, by decide, fun h => (by cases h), fun _ => ⟨rfl, _, Try.underlying151, fun q h => (by cases h), fun n e h => (by cases h)⟩, exists_of_isSome (by kernel_rfl)⟩, ?_⟩
    refine ⟨⟨rfl, by kernel_rfl, by decide, fun h => (by cases h), fun _ => ⟨rfl, _, Try.underlying152, fun q h => (by cases h), fun n e h => (by cases h)⟩, exists_of_isSome (by kernel_rfl)⟩, ?_⟩
    refine ⟨⟨rfl, by kernel_rfl, by decide, fun h => (by cases h), fun _ => ⟨rfl, _, Try.underlying153, fun q h => (by cases h), fun n e h => (by cases h)⟩, exists_of_isSome (by kernel_rfl)⟩, ?_⟩
    trivial
theorem tyOk : TOk Try.prog ty := by
  intro t i h
  unfold ty at h
  split at h
  · cases h; exact tyOk2
  · cases h; exact tyOk3
  · cases h; exact tyOk4
  · cases h; exact tyOk5
  · cases h; exact tyOk6
  · cases h; exact tyOk7
  · cases h; exact tyOk8
  · cases h; exact tyOk9
  · cases h; exact tyOk10
  · cases h; exact tyOk11
  · cases h; exact tyOk12
  · cases h; exact tyOk13
  · cases h; exact tyOk14
  · cases h; exact tyOk18
  · cases h; exact tyOk19
  · cases h; exact tyOk21
  · cases h; exact tyOk22
  · cases h; exact tyOk23
  · cases h; exact tyOk24
  · cases h; exact tyOk26
  · cases h; exact tyOk28
  · cases h; exact tyOk29
  · cases h; exact tyOk30
  · cases h; exact tyOk37
  · cases h; exact tyOk38
  · cases h; exact tyOk39
  · cases h; exact tyOk40
  · cases h; exact tyOk41
  · cases h; exact tyOk42
  · cases h; exact tyOk45
  · cases h; exact tyOk46
  · cases h; exact tyOk47
  · cases h; exact tyOk48
  · cases h; exact tyOk49
  · cases h; exact tyOk58
  · cases h; exact tyOk59
  · cases h; exact tyOk60
  · cases h; exact tyOk63
  · cases h; exact tyOk72
  · cases h; exact tyOk76
  · cases h; exact tyOk79
  · cases h; exact tyOk111
  · cases h; exact tyOk112
  · cases h; exact tyOk116
  · cases h; exact tyOk118
  · cases h; exact tyOk130
  · cases h; exact tyOk141
  · cases h; exact tyOk142
  · cases h; exact tyOk147
  · cases h; exact tyOk148
  · cases h; exact tyOk149
  · cases h; exact tyOk152
  · cases h; exact tyOk153
  · cases h; exact tyOk154
  · cases h; exact tyOk155
  · cases h
end Go.Proofs.Ytamicpfjieandaa
