/- The types of this seat, as the generator asks for them. Printed by types.py. -/
import Derived.Test.YtdeabmjffccplaaProg
import Derived.Test.YtdeabmjffccplaaAbS
import Derived.KernelRfl
namespace Go.Proofs.Ytdeabmjffccplaa
open Go Go.Ab
set_option linter.unusedVariables false
set_option linter.unusedSimpArgs false
theorem exists_of_isSome {α : Type} {o : Option α} (h : o.isSome = true) : ∃ z, o = some z := Option.isSome_iff_exists.1 h
theorem tiok_of {P : Program} {t : Nat} {i : TI} {z : Value} (hs : (P.info? t).map (·.size) = some i.sz) (hb : (P.info? t).map (·.bytes) = some i.bytes)
    (hz : (P.info? t).bind (·.zero) = some z) (h1 : ZsOk z.cells.toList i.zero) (h2 : z.cells.size = i.sz) (h3 : i.sz ≠ 0)
    (h4 : i.ag = false → ∃ x, z.cells = #[x] ∧ x = z) (h5 : i.ag = true → ∃ cs, z = .agg cs) (h6 : KOk P t i.sz i.k) : TIOk P t i := by
  cases e : P.info? t with
  | none => rw [e] at hs; cases hs
  | some f =>
    rw [e] at hs hb hz
    simp only [Option.map_some, Option.some.injEq, Option.bind_some] at hs hb hz
    exact ⟨f, z, e, hs, hb, hz, h1, h2, h3, h4, h5, h6⟩
def ty : Ty
  | 2 => some ⟨.one, 1, 8, [.d (.v (.int .i64 0))]⟩
  | 3 => some ⟨.one, 1, 8, [.d (.v (.int .i64 0))]⟩
  | 4 => some ⟨.boo, 1, 1, [.d (.v (.bool false))]⟩
  | 5 => some ⟨.one, 1, 1, [.d (.v (.int .u8 0))]⟩
  | 6 => some ⟨.one, 1, 1, [.d (.v (.int .u8 0))]⟩
  | 7 => some ⟨.st [⟨0, 1, false⟩, ⟨1, 1, false⟩, ⟨2, 1, false⟩, ⟨3, 1, false⟩], 4, 24, [.d (.v (.int .i64 0)), .d (.v (.int .i64 0)), .d (.v (.bool false)), .d (.v (.int .u8 0))]⟩
  | 8 => some ⟨.st [⟨0, 1, false⟩, ⟨1, 1, false⟩, ⟨2, 1, false⟩, ⟨3, 1, false⟩], 4, 24, [.d (.v (.int .i64 0)), .d (.v (.int .i64 0)), .d (.v (.bool false)), .d (.v (.int .u8 0))]⟩
  | 9 => some ⟨.str, 1, 16, [.d (.v (.string ⟨#[]⟩))]⟩
  | 10 => some ⟨.str, 1, 16, [.d (.v (.string ⟨#[]⟩))]⟩
  | 11 => some ⟨.str, 1, 16, [.d (.v (.string ⟨#[]⟩))]⟩
  | 12 => some ⟨.one, 1, 8, [.d (.v (.int .u64 0))]⟩
  | 13 => some ⟨.st [⟨0, 1, false⟩, ⟨1, 1, false⟩], 2, 24, [.d (.v (.string ⟨#[]⟩)), .d (.v (.int .u64 0))]⟩
  | 14 => some ⟨.st [⟨0, 1, false⟩, ⟨1, 1, false⟩], 2, 24, [.d (.v (.string ⟨#[]⟩)), .d (.v (.int .u64 0))]⟩
  | 18 => some ⟨.st [⟨0, 1, false⟩], 1, 8, [.d (.v (.pointer none))]⟩
  | 19 => some ⟨.st [⟨0, 1, false⟩], 1, 8, [.d (.v (.pointer none))]⟩
  | 21 => some ⟨.one, 1, 4, [.d (.v (.int .i32 0))]⟩
  | 22 => some ⟨.slc 139, 1, 24, [.nil]⟩
  | 23 => some ⟨.st [⟨0, 1, false⟩], 1, 24, [.nil]⟩
  | 24 => some ⟨.st [⟨0, 1, false⟩], 1, 24, [.nil]⟩
  | 25 => some ⟨.slc 27, 1, 24, [.nil]⟩
  | 26 => some ⟨.st [⟨0, 1, false⟩, ⟨1, 1, false⟩, ⟨2, 1, false⟩], 3, 48, [.d (.v (.int .i64 0)), .d (.v (.string ⟨#[]⟩)), .nil]⟩
  | 27 => some ⟨.st [⟨0, 1, false⟩, ⟨1, 1, false⟩, ⟨2, 1, false⟩], 3, 48, [.d (.v (.int .i64 0)), .d (.v (.string ⟨#[]⟩)), .nil]⟩
  | 28 => some ⟨.st [⟨0, 1, true⟩, ⟨1, 3, true⟩], 4, 72, [.nil, .d (.v (.int .i64 0)), .d (.v (.string ⟨#[]⟩)), .nil]⟩
  | 29 => some ⟨.st [⟨0, 1, true⟩, ⟨1, 3, true⟩], 4, 72, [.nil, .d (.v (.int .i64 0)), .d (.v (.string ⟨#[]⟩)), .nil]⟩
  | 32 => some ⟨.slc 125, 1, 24, [.nil]⟩
  | 33 => some ⟨.st [⟨0, 1, false⟩], 1, 24, [.nil]⟩
  | 34 => some ⟨.st [⟨0, 1, false⟩], 1, 24, [.nil]⟩
  | 35 => some ⟨.slc 37, 1, 24, [.nil]⟩
  | 36 => some ⟨.st [⟨0, 1, false⟩, ⟨1, 1, false⟩, ⟨2, 1, false⟩], 3, 48, [.d (.v (.int .i64 0)), .d (.v (.string ⟨#[]⟩)), .nil]⟩
  | 37 => some ⟨.st [⟨0, 1, false⟩, ⟨1, 1, false⟩, ⟨2, 1, false⟩], 3, 48, [.d (.v (.int .i64 0)), .d (.v (.string ⟨#[]⟩)), .nil]⟩
  | 38 => some ⟨.st [⟨0, 1, true⟩, ⟨1, 3, true⟩], 4, 72, [.nil, .d (.v (.int .i64 0)), .d (.v (.string ⟨#[]⟩)), .nil]⟩
  | 39 => some ⟨.st [⟨0, 1, true⟩, ⟨1, 3, true⟩], 4, 72, [.nil, .d (.v (.int .i64 0)), .d (.v (.string ⟨#[]⟩)), .nil]⟩
  | 42 => some ⟨.slc 132, 1, 24, [.nil]⟩
  | 43 => some ⟨.st [⟨0, 1, false⟩], 1, 24, [.nil]⟩
  | 44 => some ⟨.st [⟨0, 1, false⟩], 1, 24, [.nil]⟩
  | 47 => some ⟨.slc 84, 1, 24, [.nil]⟩
  | 48 => some ⟨.st [⟨0, 1, false⟩], 1, 24, [.nil]⟩
  | 49 => some ⟨.st [⟨0, 1, false⟩], 1, 24, [.nil]⟩
  | 61 => some ⟨.slc 9, 1, 24, [.nil]⟩
  | 62 => some ⟨.slc 3, 1, 24, [.nil]⟩
  | 63 => some ⟨.slc 62, 1, 24, [.nil]⟩
  | 64 => some ⟨.st [⟨0, 1, false⟩, ⟨1, 1, false⟩, ⟨2, 1, false⟩, ⟨3, 1, false⟩, ⟨4, 1, false⟩, ⟨5, 1, false⟩, ⟨6, 1, false⟩], 7, 152, [.nil, .nil, .nil, .nil, .nil, .nil, .d (.v (.int .i64 0))]⟩
  | 65 => some ⟨.st [⟨0, 1, false⟩, ⟨1, 1, false⟩, ⟨2, 1, false⟩, ⟨3, 1, false⟩, ⟨4, 1, false⟩, ⟨5, 1, false⟩, ⟨6, 1, false⟩], 7, 152, [.nil, .nil, .nil, .nil, .nil, .nil, .d (.v (.int .i64 0))]⟩
  | 66 => some ⟨.slc 109, 1, 24, [.nil]⟩
  | 71 => some ⟨.st [⟨0, 1, false⟩, ⟨1, 1, false⟩, ⟨2, 1, false⟩, ⟨3, 1, false⟩, ⟨4, 1, false⟩, ⟨5, 1, false⟩, ⟨6, 1, false⟩], 7, 152, [.nil, .nil, .nil, .nil, .nil, .nil, .d (.v (.int .i64 0))]⟩
  | 74 => some ⟨.slc 117, 1, 24, [.nil]⟩
  | 82 => some ⟨.slc 135, 1, 24, [.nil]⟩
  | 83 => some ⟨.st [⟨0, 1, false⟩, ⟨1, 3, true⟩, ⟨4, 1, false⟩, ⟨5, 1, false⟩, ⟨6, 1, false⟩, ⟨7, 1, false⟩, ⟨8, 1, false⟩, ⟨9, 1, false⟩, ⟨10, 1, false⟩], 11, 176, [.d (.v (.int .i64 0)), .d (.v (.int .i64 0)), .d (.v (.string ⟨#[]⟩)), .nil, .d (.v (.int .i64 0)), .nil, .d (.v (.string ⟨#[]⟩)), .d (.v (.string ⟨#[]⟩)), .nil, .nil, .d (.v (.int .i64 0))]⟩
  | 84 => some ⟨.st [⟨0, 1, false⟩, ⟨1, 3, true⟩, ⟨4, 1, false⟩, ⟨5, 1, false⟩, ⟨6, 1, false⟩, ⟨7, 1, false⟩, ⟨8, 1, false⟩, ⟨9, 1, false⟩, ⟨10, 1, false⟩], 11, 176, [.d (.v (.int .i64 0)), .d (.v (.int .i64 0)), .d (.v (.string ⟨#[]⟩)), .nil, .d (.v (.int .i64 0)), .nil, .d (.v (.string ⟨#[]⟩)), .d (.v (.string ⟨#[]⟩)), .nil, .nil, .d (.v (.int .i64 0))]⟩
  | 108 => some ⟨.st [⟨0, 1, false⟩, ⟨1, 1, false⟩], 2, 24, [.d (.v (.string ⟨#[]⟩)), .d (.v (.int .i64 0))]⟩
  | 109 => some ⟨.st [⟨0, 1, false⟩, ⟨1, 1, false⟩], 2, 24, [.d (.v (.string ⟨#[]⟩)), .d (.v (.int .i64 0))]⟩
  | 117 => some ⟨.st [⟨0, 1, false⟩, ⟨1, 1, false⟩], 2, 24, [.d (.v (.string ⟨#[]⟩)), .d (.v (.int .i64 0))]⟩
  | 124 => some ⟨.st [⟨0, 1, false⟩, ⟨1, 1, false⟩, ⟨2, 1, false⟩, ⟨3, 1, false⟩, ⟨4, 3, true⟩], 7, 128, [.d (.v (.string ⟨#[]⟩)), .d (.v (.string ⟨#[]⟩)), .nil, .nil, .d (.v (.int .i64 0)), .d (.v (.string ⟨#[]⟩)), .nil]⟩
  | 125 => some ⟨.st [⟨0, 1, false⟩, ⟨1, 1, false⟩, ⟨2, 1, false⟩, ⟨3, 1, false⟩, ⟨4, 3, true⟩], 7, 128, [.d (.v (.string ⟨#[]⟩)), .d (.v (.string ⟨#[]⟩)), .nil, .nil, .d (.v (.int .i64 0)), .d (.v (.string ⟨#[]⟩)), .nil]⟩
  | 130 => some ⟨.slc 156, 1, 24, [.nil]⟩
  | 131 => some ⟨.st [⟨0, 1, false⟩, ⟨1, 3, true⟩, ⟨4, 1, false⟩, ⟨5, 1, false⟩, ⟨6, 1, false⟩, ⟨7, 1, false⟩, ⟨8, 1, false⟩, ⟨9, 1, false⟩, ⟨10, 1, false⟩], 11, 176, [.d (.v (.int .i64 0)), .d (.v (.int .i64 0)), .d (.v (.string ⟨#[]⟩)), .nil, .d (.v (.int .i64 0)), .nil, .d (.v (.string ⟨#[]⟩)), .d (.v (.string ⟨#[]⟩)), .nil, .nil, .d (.v (.int .i64 0))]⟩
  | 132 => some ⟨.st [⟨0, 1, false⟩, ⟨1, 3, true⟩, ⟨4, 1, false⟩, ⟨5, 1, false⟩, ⟨6, 1, false⟩, ⟨7, 1, false⟩, ⟨8, 1, false⟩, ⟨9, 1, false⟩, ⟨10, 1, false⟩], 11, 176, [.d (.v (.int .i64 0)), .d (.v (.int .i64 0)), .d (.v (.string ⟨#[]⟩)), .nil, .d (.v (.int .i64 0)), .nil, .d (.v (.string ⟨#[]⟩)), .d (.v (.string ⟨#[]⟩)), .nil, .nil, .d (.v (.int .i64 0))]⟩
  | 134 => some ⟨.st [⟨0, 1, false⟩, ⟨1, 3, true⟩], 4, 64, [.d (.v (.string ⟨#[]⟩)), .d (.v (.int .i64 0)), .d (.v (.string ⟨#[]⟩)), .nil]⟩
  | 135 => some ⟨.st [⟨0, 1, false⟩, ⟨1, 3, true⟩], 4, 64, [.d (.v (.string ⟨#[]⟩)), .d (.v (.int .i64 0)), .d (.v (.string ⟨#[]⟩)), .nil]⟩
  | 138 => some ⟨.st [⟨0, 1, false⟩, ⟨1, 1, false⟩, ⟨2, 1, false⟩, ⟨3, 1, false⟩, ⟨4, 3, true⟩], 7, 128, [.d (.v (.string ⟨#[]⟩)), .d (.v (.string ⟨#[]⟩)), .nil, .nil, .d (.v (.int .i64 0)), .d (.v (.string ⟨#[]⟩)), .nil]⟩
  | 139 => some ⟨.st [⟨0, 1, false⟩, ⟨1, 1, false⟩, ⟨2, 1, false⟩, ⟨3, 1, false⟩, ⟨4, 3, true⟩], 7, 128, [.d (.v (.string ⟨#[]⟩)), .d (.v (.string ⟨#[]⟩)), .nil, .nil, .d (.v (.int .i64 0)), .d (.v (.string ⟨#[]⟩)), .nil]⟩
  | 155 => some ⟨.st [⟨0, 1, false⟩, ⟨1, 3, true⟩], 4, 64, [.d (.v (.string ⟨#[]⟩)), .d (.v (.int .i64 0)), .d (.v (.string ⟨#[]⟩)), .nil]⟩
  | 156 => some ⟨.st [⟨0, 1, false⟩, ⟨1, 3, true⟩], 4, 64, [.d (.v (.string ⟨#[]⟩)), .d (.v (.int .i64 0)), .d (.v (.string ⟨#[]⟩)), .nil]⟩
  | 158 => some ⟨.slc 61, 1, 24, [.nil]⟩
  | 163 => some ⟨.st [⟨0, 1, false⟩, ⟨1, 1, false⟩, ⟨2, 1, false⟩, ⟨3, 1, false⟩], 4, 40, [.d (.v (.pointer none)), .d (.v (.pointer none)), .d (.v (.pointer none)), .d (.v (.string ⟨#[]⟩))]⟩
  | 164 => some ⟨.st [⟨0, 1, false⟩, ⟨1, 1, false⟩, ⟨2, 1, false⟩, ⟨3, 1, false⟩], 4, 40, [.d (.v (.pointer none)), .d (.v (.pointer none)), .d (.v (.pointer none)), .d (.v (.string ⟨#[]⟩))]⟩
  | 169 => some ⟨.one, 1, 4, [.d (.v (.int .u32 0))]⟩
  | 170 => some ⟨.one, 1, 1, [.d (.v (.int .u8 0))]⟩
  | 171 => some ⟨.one, 1, 1, [.d (.v (.int .u8 0))]⟩
  | 174 => some ⟨.one, 1, 4, [.d (.v (.int .i32 0))]⟩
  | 175 => some ⟨.one, 1, 4, [.d (.v (.int .i32 0))]⟩
  | 176 => some ⟨.st [⟨0, 1, false⟩, ⟨1, 1, false⟩, ⟨2, 1, false⟩, ⟨3, 1, false⟩, ⟨4, 1, false⟩, ⟨5, 1, false⟩, ⟨6, 1, false⟩, ⟨7, 1, false⟩, ⟨8, 1, false⟩, ⟨9, 1, false⟩, ⟨10, 1, false⟩], 11, 48, [.d (.v (.int .u64 0)), .d (.v (.int .u64 0)), .d (.v (.int .u32 0)), .d (.v (.int .u8 0)), .d (.v (.int .u8 0)), .d (.v (.int .u8 0)), .d (.v (.int .u8 0)), .d (.v .nilFunc), .d (.v (.pointer none)), .d (.v (.int .i32 0)), .d (.v (.int .i32 0))]⟩
  | 177 => some ⟨.st [⟨0, 1, false⟩, ⟨1, 1, false⟩, ⟨2, 1, false⟩, ⟨3, 1, false⟩, ⟨4, 1, false⟩, ⟨5, 1, false⟩, ⟨6, 1, false⟩, ⟨7, 1, false⟩, ⟨8, 1, false⟩, ⟨9, 1, false⟩, ⟨10, 1, false⟩], 11, 48, [.d (.v (.int .u64 0)), .d (.v (.int .u64 0)), .d (.v (.int .u32 0)), .d (.v (.int .u8 0)), .d (.v (.int .u8 0)), .d (.v (.int .u8 0)), .d (.v (.int .u8 0)), .d (.v .nilFunc), .d (.v (.pointer none)), .d (.v (.int .i32 0)), .d (.v (.int .i32 0))]⟩
  | _ => none
@[go_sem] theorem ty2 : ty 2 = some ⟨.one, 1, 8, [.d (.v (.int .i64 0))]⟩ := rfl
@[go_sem] theorem ty3 : ty 3 = some ⟨.one, 1, 8, [.d (.v (.int .i64 0))]⟩ := rfl
@[go_sem] theorem ty4 : ty 4 = some ⟨.boo, 1, 1, [.d (.v (.bool false))]⟩ := rfl
@[go_sem] theorem ty5 : ty 5 = some ⟨.one, 1, 1, [.d (.v (.int .u8 0))]⟩ := rfl
@[go_sem] theorem ty6 : ty 6 = some ⟨.one, 1, 1, [.d (.v (.int .u8 0))]⟩ := rfl
@[go_sem] theorem ty7 : ty 7 = some ⟨.st [⟨0, 1, false⟩, ⟨1, 1, false⟩, ⟨2, 1, false⟩, ⟨3, 1, false⟩], 4, 24, [.d (.v (.int .i64 0)), .d (.v (.int .i64 0)), .d (.v (.bool false)), .d (.v (.int .u8 0))]⟩ := rfl
@[go_sem] theorem ty8 : ty 8 = some ⟨.st [⟨0, 1, false⟩, ⟨1, 1, false⟩, ⟨2, 1, false⟩, ⟨3, 1, false⟩], 4, 24, [.d (.v (.int .i64 0)), .d (.v (.int .i64 0)), .d (.v (.bool false)), .d (.v (.int .u8 0))]⟩ := rfl
@[go_sem] theorem ty9 : ty 9 = some ⟨.str, 1, 16, [.d (.v (.string ⟨#[]⟩))]⟩ := rfl
@[go_sem] theorem ty10 : ty 10 = some ⟨.str, 1, 16, [.d (.v (.string ⟨#[]⟩))]⟩ := rfl
@[go_sem] theorem ty11 : ty 11 = some ⟨.str, 1, 16, [.d (.v (.string ⟨#[]⟩))]⟩ := rfl
@[go_sem] theorem ty12 : ty 12 = some ⟨.one, 1, 8, [.d (.v (.int .u64 0))]⟩ := rfl
@[go_sem] theorem ty13 : ty 13 = some ⟨.st [⟨0, 1, false⟩, ⟨1, 1, false⟩], 2, 24, [.d (.v (.string ⟨#[]⟩)), .d (.v (.int .u64 0))]⟩ := rfl
@[go_sem] theorem ty14 : ty 14 = some ⟨.st [⟨0, 1, false⟩, ⟨1, 1, false⟩], 2, 24, [.d (.v (.string ⟨#[]⟩)), .d (.v (.int .u64 0))]⟩ := rfl
@[go_sem] theorem ty18 : ty 18 = some ⟨.st [⟨0, 1, false⟩], 1, 8, [.d (.v (.pointer none))]⟩ := rfl
@[go_sem] theorem ty19 : ty 19 = some ⟨.st [⟨0, 1, false⟩], 1, 8, [.d (.v (.pointer none))]⟩ := rfl
@[go_sem] theorem ty21 : ty 21 = some ⟨.one, 1, 4, [.d (.v (.int .i32 0))]⟩ := rfl
@[go_sem] theorem ty22 : ty 22 = some ⟨.slc 139, 1, 24, [.nil]⟩ := rfl
@[go_sem] theorem ty23 : ty 23 = some ⟨.st [⟨0, 1, false⟩], 1, 24, [.nil]⟩ := rfl
@[go_sem] theorem ty24 : ty 24 = some ⟨.st [⟨0, 1, false⟩], 1, 24, [.nil]⟩ := rfl
@[go_sem] theorem ty25 : ty 25 = some ⟨.slc 27, 1, 24, [.nil]⟩ := rfl
@[go_sem] theorem ty26 : ty 26 = some ⟨.st [⟨0, 1, false⟩, ⟨1, 1, false⟩, ⟨2, 1, false⟩], 3, 48, [.d (.v (.int .i64 0)), .d (.v (.string ⟨#[]⟩)), .nil]⟩ := rfl
@[go_sem] theorem ty27 : ty 27 = some ⟨.st [⟨0, 1, false⟩, ⟨1, 1, false⟩, ⟨2, 1, false⟩], 3, 48, [.d (.v (.int .i64 0)), .d (.v (.string ⟨#[]⟩)), .nil]⟩ := rfl
@[go_sem] theorem ty28 : ty 28 = some ⟨.st [⟨0, 1, true⟩, ⟨1, 3, true⟩], 4, 72, [.nil, .d (.v (.int .i64 0)), .d (.v (.string ⟨#[]⟩)), .nil]⟩ := rfl
@[go_sem] theorem ty29 : ty 29 = some ⟨.st [⟨0, 1, true⟩, ⟨1, 3, true⟩], 4, 72, [.nil, .d (.v (.int .i64 0)), .d (.v (.string ⟨#[]⟩)), .nil]⟩ := rfl
@[go_sem] theorem ty32 : ty 32 = some ⟨.slc 125, 1, 24, [.nil]⟩ := rfl
@[go_sem] theorem ty33 : ty 33 = some ⟨.st [⟨0, 1, false⟩], 1, 24, [.nil]⟩ := rfl
@[go_sem] theorem ty34 : ty 34 = some ⟨.st [⟨0, 1, false⟩], 1, 24, [.nil]⟩ := rfl
@[go_sem] theorem ty35 : ty 35 = some ⟨.slc 37, 1, 24, [.nil]⟩ := rfl
@[go_sem] theorem ty36 : ty 36 = some ⟨.st [⟨0, 1, false⟩, ⟨1, 1, false⟩, ⟨2, 1, false⟩], 3, 48, [.d (.v (.int .i64 0)), .d (.v (.string ⟨#[]⟩)), .nil]⟩ := rfl
@[go_sem] theorem ty37 : ty 37 = some ⟨.st [⟨0, 1, false⟩, ⟨1, 1, false⟩, ⟨2, 1, false⟩], 3, 48, [.d (.v (.int .i64 0)), .d (.v (.string ⟨#[]⟩)), .nil]⟩ := rfl
@[go_sem] theorem ty38 : ty 38 = some ⟨.st [⟨0, 1, true⟩, ⟨1, 3, true⟩], 4, 72, [.nil, .d (.v (.int .i64 0)), .d (.v (.string ⟨#[]⟩)), .nil]⟩ := rfl
@[go_sem] theorem ty39 : ty 39 = some ⟨.st [⟨0, 1, true⟩, ⟨1, 3, true⟩], 4, 72, [.nil, .d (.v (.int .i64 0)), .d (.v (.string ⟨#[]⟩)), .nil]⟩ := rfl
@[go_sem] theorem ty42 : ty 42 = some ⟨.slc 132, 1, 24, [.nil]⟩ := rfl
@[go_sem] theorem ty43 : ty 43 = some ⟨.st [⟨0, 1, false⟩], 1, 24, [.nil]⟩ := rfl
@[go_sem] theorem ty44 : ty 44 = some ⟨.st [⟨0, 1, false⟩], 1, 24, [.nil]⟩ := rfl
@[go_sem] theorem ty47 : ty 47 = some ⟨.slc 84, 1, 24, [.nil]⟩ := rfl
@[go_sem] theorem ty48 : ty 48 = some ⟨.st [⟨0, 1, false⟩], 1, 24, [.nil]⟩ := rfl
@[go_sem] theorem ty49 : ty 49 = some ⟨.st [⟨0, 1, false⟩], 1, 24, [.nil]⟩ := rfl
@[go_sem] theorem ty61 : ty 61 = some ⟨.slc 9, 1, 24, [.nil]⟩ := rfl
@[go_sem] theorem ty62 : ty 62 = some ⟨.slc 3, 1, 24, [.nil]⟩ := rfl
@[go_sem] theorem ty63 : ty 63 = some ⟨.slc 62, 1, 24, [.nil]⟩ := rfl
@[go_sem] theorem ty64 : ty 64 = some ⟨.st [⟨0, 1, false⟩, ⟨1, 1, false⟩, ⟨2, 1, false⟩, ⟨3, 1, false⟩, ⟨4, 1, false⟩, ⟨5, 1, false⟩, ⟨6, 1, false⟩], 7, 152, [.nil, .nil, .nil, .nil, .nil, .nil, .d (.v (.int .i64 0))]⟩ := rfl
@[go_sem] theorem ty65 : ty 65 = some ⟨.st [⟨0, 1, false⟩, ⟨1, 1, false⟩, ⟨2, 1, false⟩, ⟨3, 1, false⟩, ⟨4, 1, false⟩, ⟨5, 1, false⟩, ⟨6, 1, false⟩], 7, 152, [.nil, .nil, .nil, .nil, .nil, .nil, .d (.v (.int .i64 0))]⟩ := rfl
@[go_sem] theorem ty66 : ty 66 = some ⟨.slc 109, 1, 24, [.nil]⟩ := rfl
@[go_sem] theorem ty71 : ty 71 = some ⟨.st [⟨0, 1, false⟩, ⟨1, 1, false⟩, ⟨2, 1, false⟩, ⟨3, 1, false⟩, ⟨4, 1, false⟩, ⟨5, 1, false⟩, ⟨6, 1, false⟩], 7, 152, [.nil, .nil, .nil, .nil, .nil, .nil, .d (.v (.int .i64 0))]⟩ := rfl
@[go_sem] theorem ty74 : ty 74 = some ⟨.slc 117, 1, 24, [.nil]⟩ := rfl
@[go_sem] theorem ty82 : ty 82 = some ⟨.slc 135, 1, 24, [.nil]⟩ := rfl
@[go_sem] theorem ty83 : ty 83 = some ⟨.st [⟨0, 1, false⟩, ⟨1, 3, true⟩, ⟨4, 1, false⟩, ⟨5, 1, false⟩, ⟨6, 1, false⟩, ⟨7, 1, false⟩, ⟨8, 1, false⟩, ⟨9, 1, false⟩, ⟨10, 1, false⟩], 11, 176, [.d (.v (.int .i64 0)), .d (.v (.int .i64 0)), .d (.v (.string ⟨#[]⟩)), .nil, .d (.v (.int .i64 0)), .nil, .d (.v (.string ⟨#[]⟩)), .d (.v (.string ⟨#[]⟩)), .nil, .nil, .d (.v (.int .i64 0))]⟩ := rfl
@[go_sem] theorem ty84 : ty 84 = some ⟨.st [⟨0, 1, false⟩, ⟨1, 3, true⟩, ⟨4, 1, false⟩, ⟨5, 1, false⟩, ⟨6, 1, false⟩, ⟨7, 1, false⟩, ⟨8, 1, false⟩, ⟨9, 1, false⟩, ⟨10, 1, false⟩], 11, 176, [.d (.v (.int .i64 0)), .d (.v (.int .i64 0)), .d (.v (.string ⟨#[]⟩)), .nil, .d (.v (.int .i64 0)), .nil, .d (.v (.string ⟨#[]⟩)), .d (.v (.string ⟨#[]⟩)), .nil, .nil, .d (.v (.int .i64 0))]⟩ := rfl
@[go_sem] theorem ty108 : ty 108 = some ⟨.st [⟨0, 1, false⟩, ⟨1, 1, false⟩], 2, 24, [.d (.v (.string ⟨#[]⟩)), .d (.v (.int .i64 0))]⟩ := rfl
@[go_sem] theorem ty109 : ty 109 = some ⟨.st [⟨0, 1, false⟩, ⟨1, 1, false⟩], 2, 24, [.d (.v (.string ⟨#[]⟩)), .d (.v (.int .i64 0))]⟩ := rfl
@[go_sem] theorem ty117 : ty 117 = some ⟨.st [⟨0, 1, false⟩, ⟨1, 1, false⟩], 2, 24, [.d (.v (.string ⟨#[]⟩)), .d (.v (.int .i64 0))]⟩ := rfl
@[go_sem] theorem ty124 : ty 124 = some ⟨.st [⟨0, 1, false⟩, ⟨1, 1, false⟩, ⟨2, 1, false⟩, ⟨3, 1, false⟩, ⟨4, 3, true⟩], 7, 128, [.d (.v (.string ⟨#[]⟩)), .d (.v (.string ⟨#[]⟩)), .nil, .nil, .d (.v (.int .i64 0)), .d (.v (.string ⟨#[]⟩)), .nil]⟩ := rfl
@[go_sem] theorem ty125 : ty 125 = some ⟨.st [⟨0, 1, false⟩, ⟨1, 1, false⟩, ⟨2, 1, false⟩, ⟨3, 1, false⟩, ⟨4, 3, true⟩], 7, 128, [.d (.v (.string ⟨#[]⟩)), .d (.v (.string ⟨#[]⟩)), .nil, .nil, .d (.v (.int .i64 0)), .d (.v (.string ⟨#[]⟩)), .nil]⟩ := rfl
@[go_sem] theorem ty130 : ty 130 = some ⟨.slc 156, 1, 24, [.nil]⟩ := rfl
@[go_sem] theorem ty131 : ty 131 = some ⟨.st [⟨0, 1, false⟩, ⟨1, 3, true⟩, ⟨4, 1, false⟩, ⟨5, 1, false⟩, ⟨6, 1, false⟩, ⟨7, 1, false⟩, ⟨8, 1, false⟩, ⟨9, 1, false⟩, ⟨10, 1, false⟩], 11, 176, [.d (.v (.int .i64 0)), .d (.v (.int .i64 0)), .d (.v (.string ⟨#[]⟩)), .nil, .d (.v (.int .i64 0)), .nil, .d (.v (.string ⟨#[]⟩)), .d (.v (.string ⟨#[]⟩)), .nil, .nil, .d (.v (.int .i64 0))]⟩ := rfl
@[go_sem] theorem ty132 : ty 132 = some ⟨.st [⟨0, 1, false⟩, ⟨1, 3, true⟩, ⟨4, 1, false⟩, ⟨5, 1, false⟩, ⟨6, 1, false⟩, ⟨7, 1, false⟩, ⟨8, 1, false⟩, ⟨9, 1, false⟩, ⟨10, 1, false⟩], 11, 176, [.d (.v (.int .i64 0)), .d (.v (.int .i64 0)), .d (.v (.string ⟨#[]⟩)), .nil, .d (.v (.int .i64 0)), .nil, .d (.v (.string ⟨#[]⟩)), .d (.v (.string ⟨#[]⟩)), .nil, .nil, .d (.v (.int .i64 0))]⟩ := rfl
@[go_sem] theorem ty134 : ty 134 = some ⟨.st [⟨0, 1, false⟩, ⟨1, 3, true⟩], 4, 64, [.d (.v (.string ⟨#[]⟩)), .d (.v (.int .i64 0)), .d (.v (.string ⟨#[]⟩)), .nil]⟩ := rfl
@[go_sem] theorem ty135 : ty 135 = some ⟨.st [⟨0, 1, false⟩, ⟨1, 3, true⟩], 4, 64, [.d (.v (.string ⟨#[]⟩)), .d (.v (.int .i64 0)), .d (.v (.string ⟨#[]⟩)), .nil]⟩ := rfl
@[go_sem] theorem ty138 : ty 138 = some ⟨.st [⟨0, 1, false⟩, ⟨1, 1, false⟩, ⟨2, 1, false⟩, ⟨3, 1, false⟩, ⟨4, 3, true⟩], 7, 128, [.d (.v (.string ⟨#[]⟩)), .d (.v (.string ⟨#[]⟩)), .nil, .nil, .d (.v (.int .i64 0)), .d (.v (.string ⟨#[]⟩)), .nil]⟩ := rfl
@[go_sem] theorem ty139 : ty 139 = some ⟨.st [⟨0, 1, false⟩, ⟨1, 1, false⟩, ⟨2, 1, false⟩, ⟨3, 1, false⟩, ⟨4, 3, true⟩], 7, 128, [.d (.v (.string ⟨#[]⟩)), .d (.v (.string ⟨#[]⟩)), .nil, .nil, .d (.v (.int .i64 0)), .d (.v (.string ⟨#[]⟩)), .nil]⟩ := rfl
@[go_sem] theorem ty155 : ty 155 = some ⟨.st [⟨0, 1, false⟩, ⟨1, 3, true⟩], 4, 64, [.d (.v (.string ⟨#[]⟩)), .d (.v (.int .i64 0)), .d (.v (.string ⟨#[]⟩)), .nil]⟩ := rfl
@[go_sem] theorem ty156 : ty 156 = some ⟨.st [⟨0, 1, false⟩, ⟨1, 3, true⟩], 4, 64, [.d (.v (.string ⟨#[]⟩)), .d (.v (.int .i64 0)), .d (.v (.string ⟨#[]⟩)), .nil]⟩ := rfl
@[go_sem] theorem ty158 : ty 158 = some ⟨.slc 61, 1, 24, [.nil]⟩ := rfl
@[go_sem] theorem ty163 : ty 163 = some ⟨.st [⟨0, 1, false⟩, ⟨1, 1, false⟩, ⟨2, 1, false⟩, ⟨3, 1, false⟩], 4, 40, [.d (.v (.pointer none)), .d (.v (.pointer none)), .d (.v (.pointer none)), .d (.v (.string ⟨#[]⟩))]⟩ := rfl
@[go_sem] theorem ty164 : ty 164 = some ⟨.st [⟨0, 1, false⟩, ⟨1, 1, false⟩, ⟨2, 1, false⟩, ⟨3, 1, false⟩], 4, 40, [.d (.v (.pointer none)), .d (.v (.pointer none)), .d (.v (.pointer none)), .d (.v (.string ⟨#[]⟩))]⟩ := rfl
@[go_sem] theorem ty169 : ty 169 = some ⟨.one, 1, 4, [.d (.v (.int .u32 0))]⟩ := rfl
@[go_sem] theorem ty170 : ty 170 = some ⟨.one, 1, 1, [.d (.v (.int .u8 0))]⟩ := rfl
@[go_sem] theorem ty171 : ty 171 = some ⟨.one, 1, 1, [.d (.v (.int .u8 0))]⟩ := rfl
@[go_sem] theorem ty174 : ty 174 = some ⟨.one, 1, 4, [.d (.v (.int .i32 0))]⟩ := rfl
@[go_sem] theorem ty175 : ty 175 = some ⟨.one, 1, 4, [.d (.v (.int .i32 0))]⟩ := rfl
@[go_sem] theorem ty176 : ty 176 = some ⟨.st [⟨0, 1, false⟩, ⟨1, 1, false⟩, ⟨2, 1, false⟩, ⟨3, 1, false⟩, ⟨4, 1, false⟩, ⟨5, 1, false⟩, ⟨6, 1, false⟩, ⟨7, 1, false⟩, ⟨8, 1, false⟩, ⟨9, 1, false⟩, ⟨10, 1, false⟩], 11, 48, [.d (.v (.int .u64 0)), .d (.v (.int .u64 0)), .d (.v (.int .u32 0)), .d (.v (.int .u8 0)), .d (.v (.int .u8 0)), .d (.v (.int .u8 0)), .d (.v (.int .u8 0)), .d (.v .nilFunc), .d (.v (.pointer none)), .d (.v (.int .i32 0)), .d (.v (.int .i32 0))]⟩ := rfl
@[go_sem] theorem ty177 : ty 177 = some ⟨.st [⟨0, 1, false⟩, ⟨1, 1, false⟩, ⟨2, 1, false⟩, ⟨3, 1, false⟩, ⟨4, 1, false⟩, ⟨5, 1, false⟩, ⟨6, 1, false⟩, ⟨7, 1, false⟩, ⟨8, 1, false⟩, ⟨9, 1, false⟩, ⟨10, 1, false⟩], 11, 48, [.d (.v (.int .u64 0)), .d (.v (.int .u64 0)), .d (.v (.int .u32 0)), .d (.v (.int .u8 0)), .d (.v (.int .u8 0)), .d (.v (.int .u8 0)), .d (.v (.int .u8 0)), .d (.v .nilFunc), .d (.v (.pointer none)), .d (.v (.int .i32 0)), .d (.v (.int .i32 0))]⟩ := rfl
theorem tyOk2 : TIOk Try.prog 2 ⟨.one, 1, 8, [.d (.v (.int .i64 0))]⟩ := by
  refine tiok_of (z := (.int .i64 0 : Value)) (by kernel_rfl) (by kernel_rfl) (by kernel_rfl) (by simp [ZsOk, ZOk, sc, Value.cells]) rfl (by decide) ?_ ?_ ?_
  · exact fun _ => ⟨_, rfl, rfl⟩
  · exact fun h => (by cases h)
  · exact ⟨rfl, _, Try.underlying2, fun q h => (by cases h), fun n e h => (by cases h)⟩
theorem tyOk3 : TIOk Try.prog 3 ⟨.one, 1, 8, [.d (.v (.int .i64 0))]⟩ := by
  refine tiok_of (z := (.int .i64 0 : Value)) (by kernel_rfl) (by kernel_rfl) (by kernel_rfl) (by simp [ZsOk, ZOk, sc, Value.cells]) rfl (by decide) ?_ ?_ ?_
  · exact fun _ => ⟨_, rfl, rfl⟩
  · exact fun h => (by cases h)
  · exact ⟨rfl, _, Try.underlying3, fun q h => (by cases h), fun n e h => (by cases h)⟩
theorem tyOk4 : TIOk Try.prog 4 ⟨.boo, 1, 1, [.d (.v (.bool false))]⟩ := by
  refine tiok_of (z := (.bool false : Value)) (by kernel_rfl) (by kernel_rfl) (by kernel_rfl) (by simp [ZsOk, ZOk, sc, Value.cells]) rfl (by decide) ?_ ?_ ?_
  · exact fun _ => ⟨_, rfl, rfl⟩
  · exact fun h => (by cases h)
  · exact ⟨rfl, Try.underlying4⟩
theorem tyOk5 : TIOk Try.prog 5 ⟨.one, 1, 1, [.d (.v (.int .u8 0))]⟩ := by
  refine tiok_of (z := (.int .u8 0 : Value)) (by kernel_rfl) (by kernel_rfl) (by kernel_rfl) (by simp [ZsOk, ZOk, sc, Value.cells]) rfl (by decide) ?_ ?_ ?_
  · exact fun _ => ⟨_, rfl, rfl⟩
  · exact fun h => (by cases h)
  · exact ⟨rfl, _, Try.underlying5, fun q h => (by cases h), fun n e h => (by cases h)⟩
theorem tyOk6 : TIOk Try.prog 6 ⟨.one, 1, 1, [.d (.v (.int .u8 0))]⟩ := by
  refine tiok_of (z := (.int .u8 0 : Value)) (by kernel_rfl) (by kernel_rfl) (by kernel_rfl) (by simp [ZsOk, ZOk, sc, Value.cells]) rfl (by decide) ?_ ?_ ?_
  · exact fun _ => ⟨_, rfl, rfl⟩
  · exact fun h => (by cases h)
  · exact ⟨rfl, _, Try.underlying6, fun q h => (by cases h), fun n e h => (by cases h)⟩
theorem tyOk7 : TIOk Try.prog 7 ⟨.st [⟨0, 1, false⟩, ⟨1, 1, false⟩, ⟨2, 1, false⟩, ⟨3, 1, false⟩], 4, 24, [.d (.v (.int .i64 0)), .d (.v (.int .i64 0)), .d (.v (.bool false)), .d (.v (.int .u8 0))]⟩ := by
  refine tiok_of (z := (.agg #[.int .i64 0, .int .i64 0, .bool false, .int .u8 0] : Value)) (by kernel_rfl) (by kernel_rfl) (by kernel_rfl) (by simp [ZsOk, ZOk, sc, Value.cells]) rfl (by decide) ?_ ?_ ?_
  · exact fun h => (by cases h)
  · exact fun _ => ⟨_, rfl⟩
  · refine ⟨_, Try.underlying7, ?_⟩
    refine ⟨⟨rfl, by kernel_rfl, by decide, fun h => (by cases h), fun _ => ⟨rfl, _, Try.underlying2, fun q h => (by cases h), fun n e h => (by cases h)⟩, exists_of_isSome (by kernel_rfl)⟩, ?_⟩
    refine ⟨⟨rfl, by kernel_rfl, by decide, fun h => (by cases h), fun _ => ⟨rfl, _, Try.underlying3, fun q h => (by cases h), fun n e h => (by cases h)⟩, exists_of_isSome (by kernel_rfl)⟩, ?_⟩
    refine ⟨⟨rfl, by kernel_rfl, by decide, fun h => (by cases h), fun _ => ⟨rfl, _, Try.underlying4, fun q h => (by cases h), fun n e h => (by cases h)⟩, exists_of_isSome (by kernel_rfl)⟩, ?_⟩
    refine ⟨⟨rfl, by kernel_rfl, by decide, fun h => (by cases h), fun _ => ⟨rfl, _, Try.underlying6, fun q h => (by cases h), fun n e h => (by cases h)⟩, exists_of_isSome (by kernel_rfl)⟩, ?_⟩
    trivial
theorem tyOk8 : TIOk Try.prog 8 ⟨.st [⟨0, 1, false⟩, ⟨1, 1, false⟩, ⟨2, 1, false⟩, ⟨3, 1, false⟩], 4, 24, [.d (.v (.int .i64 0)), .d (.v (.int .i64 0)), .d (.v (.bool false)), .d (.v (.int .u8 0))]⟩ := by
  refine tiok_of (z := (.agg #[.int .i64 0, .int .i64 0, .bool false, .int .u8 0] : Value)) (by kernel_rfl) (by kernel_rfl) (by kernel_rfl) (by simp [ZsOk, ZOk, sc, Value.cells]) rfl (by decide) ?_ ?_ ?_
  · exact fun h => (by cases h)
  · exact fun _ => ⟨_, rfl⟩
  · refine ⟨_, Try.underlying8, ?_⟩
    refine ⟨⟨rfl, by kernel_rfl, by decide, fun h => (by cases h), fun _ => ⟨rfl, _, Try.underlying2, fun q h => (by cases h), fun n e h => (by cases h)⟩, exists_of_isSome (by kernel_rfl)⟩, ?_⟩
    refine ⟨⟨rfl, by kernel_rfl, by decide, fun h => (by cases h), fun _ => ⟨rfl, _, Try.underlying3, fun q h => (by cases h), fun n e h => (by cases h)⟩, exists_of_isSome (by kernel_rfl)⟩, ?_⟩
    refine ⟨⟨rfl, by kernel_rfl, by decide, fun h => (by cases h), fun _ => ⟨rfl, _, Try.underlying4, fun q h => (by cases h), fun n e h => (by cases h)⟩, exists_of_isSome (by kernel_rfl)⟩, ?_⟩
    refine ⟨⟨rfl, by kernel_rfl, by decide, fun h => (by cases h), fun _ => ⟨rfl, _, Try.underlying6, fun q h => (by cases h), fun n e h => (by cases h)⟩, exists_of_isSome (by kernel_rfl)⟩, ?_⟩
    trivial
theorem tyOk9 : TIOk Try.prog 9 ⟨.str, 1, 16, [.d (.v (.string ⟨#[]⟩))]⟩ := by
  refine tiok_of (z := (.string ⟨#[]⟩ : Value)) (by kernel_rfl) (by kernel_rfl) (by kernel_rfl) (by simp [ZsOk, ZOk, sc, Value.cells]) rfl (by decide) ?_ ?_ ?_
  · exact fun _ => ⟨_, rfl, rfl⟩
  · exact fun h => (by cases h)
  · exact ⟨rfl, Try.underlying9⟩
theorem tyOk10 : TIOk Try.prog 10 ⟨.str, 1, 16, [.d (.v (.string ⟨#[]⟩))]⟩ := by
  refine tiok_of (z := (.string ⟨#[]⟩ : Value)) (by kernel_rfl) (by kernel_rfl) (by kernel_rfl) (by simp [ZsOk, ZOk, sc, Value.cells]) rfl (by decide) ?_ ?_ ?_
  · exact fun _ => ⟨_, rfl, rfl⟩
  · exact fun h => (by cases h)
  · exact ⟨rfl, Try.underlying10⟩
theorem tyOk11 : TIOk Try.prog 11 ⟨.str, 1, 16, [.d (.v (.string ⟨#[]⟩))]⟩ := by
  refine tiok_of (z := (.string ⟨#[]⟩ : Value)) (by kernel_rfl) (by kernel_rfl) (by kernel_rfl) (by simp [ZsOk, ZOk, sc, Value.cells]) rfl (by decide) ?_ ?_ ?_
  · exact fun _ => ⟨_, rfl, rfl⟩
  · exact fun h => (by cases h)
  · exact ⟨rfl, Try.underlying11⟩
theorem tyOk12 : TIOk Try.prog 12 ⟨.one, 1, 8, [.d (.v (.int .u64 0))]⟩ := by
  refine tiok_of (z := (.int .u64 0 : Value)) (by kernel_rfl) (by kernel_rfl) (by kernel_rfl) (by simp [ZsOk, ZOk, sc, Value.cells]) rfl (by decide) ?_ ?_ ?_
  · exact fun _ => ⟨_, rfl, rfl⟩
  · exact fun h => (by cases h)
  · exact ⟨rfl, _, Try.underlying12, fun q h => (by cases h), fun n e h => (by cases h)⟩
theorem tyOk13 : TIOk Try.prog 13 ⟨.st [⟨0, 1, false⟩, ⟨1, 1, false⟩], 2, 24, [.d (.v (.string ⟨#[]⟩)), .d (.v (.int .u64 0))]⟩ := by
  refine tiok_of (z := (.agg #[.string ⟨#[]⟩, .int .u64 0] : Value)) (by kernel_rfl) (by kernel_rfl) (by kernel_rfl) (by simp [ZsOk, ZOk, sc, Value.cells]) rfl (by decide) ?_ ?_ ?_
  · exact fun h => (by cases h)
  · exact fun _ => ⟨_, rfl⟩
  · refine ⟨_, Try.underlying13, ?_⟩
    refine ⟨⟨rfl, by kernel_rfl, by decide, fun h => (by cases h), fun _ => ⟨rfl, _, Try.underlying9, fun q h => (by cases h), fun n e h => (by cases h)⟩, exists_of_isSome (by kernel_rfl)⟩, ?_⟩
    refine ⟨⟨rfl, by kernel_rfl, by decide, fun h => (by cases h), fun _ => ⟨rfl, _, Try.underlying12, fun q h => (by cases h), fun n e h => (by cases h)⟩, exists_of_isSome (by kernel_rfl)⟩, ?_⟩
    trivial
theorem tyOk14 : TIOk Try.prog 14 ⟨.st [⟨0, 1, false⟩, ⟨1, 1, false⟩], 2, 24, [.d (.v (.string ⟨#[]⟩)), .d (.v (.int .u64 0))]⟩ := by
  refine tiok_of (z := (.agg #[.string ⟨#[]⟩, .int .u64 0] : Value)) (by kernel_rfl) (by kernel_rfl) (by kernel_rfl) (by simp [ZsOk, ZOk, sc, Value.cells]) rfl (by decide) ?_ ?_ ?_
  · exact fun h => (by cases h)
  · exact fun _ => ⟨_, rfl⟩
  · refine ⟨_, Try.underlying14, ?_⟩
    refine ⟨⟨rfl, by kernel_rfl, by decide, fun h => (by cases h), fun _ => ⟨rfl, _, Try.underlying9, fun q h => (by cases h), fun n e h => (by cases h)⟩, exists_of_isSome (by kernel_rfl)⟩, ?_⟩
    refine ⟨⟨rfl, by kernel_rfl, by decide, fun h => (by cases h), fun _ => ⟨rfl, _, Try.underlying12, fun q h => (by cases h), fun n e h => (by cases h)⟩, exists_of_isSome (by kernel_rfl)⟩, ?_⟩
    trivial
theorem tyOk18 : TIOk Try.prog 18 ⟨.st [⟨0, 1, false⟩], 1, 8, [.d (.v (.pointer none))]⟩ := by
  refine tiok_of (z := (.agg #[.pointer none] : Value)) (by kernel_rfl) (by kernel_rfl) (by kernel_rfl) (by simp [ZsOk, ZOk, sc, Value.cells]) rfl (by decide) ?_ ?_ ?_
  · exact fun h => (by cases h)
  · exact fun _ => ⟨_, rfl⟩
  · refine ⟨_, Try.underlying18, ?_⟩
    refine ⟨⟨rfl, by kernel_rfl, by decide, fun h => (by cases h), fun _ => ⟨rfl, _, Try.underlying17, fun q h => (by cases h), fun n e h => (by cases h)⟩, exists_of_isSome (by kernel_rfl)⟩, ?_⟩
    trivial
theorem tyOk19 : TIOk Try.prog 19 ⟨.st [⟨0, 1, false⟩], 1, 8, [.d (.v (.pointer none))]⟩ := by
  refine tiok_of (z := (.agg #[.pointer none] : Value)) (by kernel_rfl) (by kernel_rfl) (by kernel_rfl) (by simp [ZsOk, ZOk, sc, Value.cells]) rfl (by decide) ?_ ?_ ?_
  · exact fun h => (by cases h)
  · exact fun _ => ⟨_, rfl⟩
  · refine ⟨_, Try.underlying19, ?_⟩
    refine ⟨⟨rfl, by kernel_rfl, by decide, fun h => (by cases h), fun _ => ⟨rfl, _, Try.underlying17, fun q h => (by cases h), fun n e h => (by cases h)⟩, exists_of_isSome (by kernel_rfl)⟩, ?_⟩
    trivial
theorem tyOk21 : TIOk Try.prog 21 ⟨.one, 1, 4, [.d (.v (.int .i32 0))]⟩ := by
  refine tiok_of (z := (.int .i32 0 : Value)) (by kernel_rfl) (by kernel_rfl) (by kernel_rfl) (by simp [ZsOk, ZOk, sc, Value.cells]) rfl (by decide) ?_ ?_ ?_
  · exact fun _ => ⟨_, rfl, rfl⟩
  · exact fun h => (by cases h)
  · exact ⟨rfl, _, Try.underlying21, fun q h => (by cases h), fun n e h => (by cases h)⟩
theorem tyOk22 : TIOk Try.prog 22 ⟨.slc 139, 1, 24, [.nil]⟩ := by
  refine tiok_of (z := (.slice none 0 0 : Value)) (by kernel_rfl) (by kernel_rfl) (by kernel_rfl) (by simp [ZsOk, ZOk, sc, Value.cells]) rfl (by decide) ?_ ?_ ?_
  · exact fun _ => ⟨_, rfl, rfl⟩
  · exact fun h => (by cases h)
  · exact ⟨rfl, Try.underlying22⟩
theorem tyOk23 : TIOk Try.prog 23 ⟨.st [⟨0, 1, false⟩], 1, 24, [.nil]⟩ := by
  refine tiok_of (z := (.agg #[.slice none 0 0] : Value)) (by kernel_rfl) (by kernel_rfl) (by kernel_rfl) (by simp [ZsOk, ZOk, sc, Value.cells]) rfl (by decide) ?_ ?_ ?_
  · exact fun h => (by cases h)
  · exact fun _ => ⟨_, rfl⟩
  · refine ⟨_, Try.underlying23, ?_⟩
    refine ⟨⟨rfl, by kernel_rfl, by decide, fun h => (by cases h), fun _ => ⟨rfl, _, Try.underlying22, fun q h => (by cases h), fun n e h => (by cases h)⟩, exists_of_isSome (by kernel_rfl)⟩, ?_⟩
    trivial
theorem tyOk24 : TIOk Try.prog 24 ⟨.st [⟨0, 1, false⟩], 1, 24, [.nil]⟩ := by
  refine tiok_of (z := (.agg #[.slice none 0 0] : Value)) (by kernel_rfl) (by kernel_rfl) (by kernel_rfl) (by simp [ZsOk, ZOk, sc, Value.cells]) rfl (by decide) ?_ ?_ ?_
  · exact fun h => (by cases h)
  · exact fun _ => ⟨_, rfl⟩
  · refine ⟨_, Try.underlying24, ?_⟩
    refine ⟨⟨rfl, by kernel_rfl, by decide, fun h => (by cases h), fun _ => ⟨rfl, _, Try.underlying22, fun q h => (by cases h), fun n e h => (by cases h)⟩, exists_of_isSome (by kernel_rfl)⟩, ?_⟩
    trivial
theorem tyOk25 : TIOk Try.prog 25 ⟨.slc 27, 1, 24, [.nil]⟩ := by
  refine tiok_of (z := (.slice none 0 0 : Value)) (by kernel_rfl) (by kernel_rfl) (by kernel_rfl) (by simp [ZsOk, ZOk, sc, Value.cells]) rfl (by decide) ?_ ?_ ?_
  · exact fun _ => ⟨_, rfl, rfl⟩
  · exact fun h => (by cases h)
  · exact ⟨rfl, Try.underlying25⟩
theorem tyOk26 : TIOk Try.prog 26 ⟨.st [⟨0, 1, false⟩, ⟨1, 1, false⟩, ⟨2, 1, false⟩], 3, 48, [.d (.v (.int .i64 0)), .d (.v (.string ⟨#[]⟩)), .nil]⟩ := by
  refine tiok_of (z := (.agg #[.int .i64 0, .string ⟨#[]⟩, .slice none 0 0] : Value)) (by kernel_rfl) (by kernel_rfl) (by kernel_rfl) (by simp [ZsOk, ZOk, sc, Value.cells]) rfl (by decide) ?_ ?_ ?_
  · exact fun h => (by cases h)
  · exact fun _ => ⟨_, rfl⟩
  · refine ⟨_, Try.underlying26, ?_⟩
    refine ⟨⟨rfl, by kernel_rfl, by decide, fun h => (by cases h), fun _ => ⟨rfl, _, Try.underlying3, fun q h => (by cases h), fun n e h => (by cases h)⟩, exists_of_isSome (by kernel_rfl)⟩, ?_⟩
    refine ⟨⟨rfl, by kernel_rfl, by decide, fun h => (by cases h), fun _ => ⟨rfl, _, Try.underlying9, fun q h => (by cases h), fun n e h => (by cases h)⟩, exists_of_isSome (by kernel_rfl)⟩, ?_⟩
    refine ⟨⟨rfl, by kernel_rfl, by decide, fun h => (by cases h), fun _ => ⟨rfl, _, Try.underlying25, fun q h => (by cases h), fun n e h => (by cases h)⟩, exists_of_isSome (by kernel_rfl)⟩, ?_⟩
    trivial
theorem tyOk27 : TIOk Try.prog 27 ⟨.st [⟨0, 1, false⟩, ⟨1, 1, false⟩, ⟨2, 1, false⟩], 3, 48, [.d (.v (.int .i64 0)), .d (.v (.string ⟨#[]⟩)), .nil]⟩ := by
  refine tiok_of (z := (.agg #[.int .i64 0, .string ⟨#[]⟩, .slice none 0 0] : Value)) (by kernel_rfl) (by kernel_rfl) (by kernel_rfl) (by simp [ZsOk, ZOk, sc, Value.cells]) rfl (by decide) ?_ ?_ ?_
  · exact fun h => (by cases h)
  · exact fun _ => ⟨_, rfl⟩
  · refine ⟨_, Try.underlying27, ?_⟩
    refine ⟨⟨rfl, by kernel_rfl, by decide, fun h => (by cases h), fun _ => ⟨rfl, _, Try.underlying3, fun q h => (by cases h), fun n e h => (by cases h)⟩, exists_of_isSome (by kernel_rfl)⟩, ?_⟩
    refine ⟨⟨rfl, by kernel_rfl, by decide, fun h => (by cases h), fun _ => ⟨rfl, _, Try.underlying9, fun q h => (by cases h), fun n e h => (by cases h)⟩, exists_of_isSome (by kernel_rfl)⟩, ?_⟩
    refine ⟨⟨rfl, by kernel_rfl, by decide, fun h => (by cases h), fun _ => ⟨rfl, _, Try.underlying25, fun q h => (by cases h), fun n e h => (by cases h)⟩, exists_of_isSome (by kernel_rfl)⟩, ?_⟩
    trivial
theorem tyOk28 : TIOk Try.prog 28 ⟨.st [⟨0, 1, true⟩, ⟨1, 3, true⟩], 4, 72, [.nil, .d (.v (.int .i64 0)), .d (.v (.string ⟨#[]⟩)), .nil]⟩ := by
  refine tiok_of (z := (.agg #[.slice none 0 0, .int .i64 0, .string ⟨#[]⟩, .slice none 0 0] : Value)) (by kernel_rfl) (by kernel_rfl) (by kernel_rfl) (by simp [ZsOk, ZOk, sc, Value.cells]) rfl (by decide) ?_ ?_ ?_
  · exact fun h => (by cases h)
  · exact fun _ => ⟨_, rfl⟩
  · refine ⟨_, Try.underlying28, ?_⟩
    refine ⟨⟨rfl, by kernel_rfl, by decide, fun _ => ⟨_, Try.underlying24⟩, fun h => (by cases h), exists_of_isSome (by kernel_rfl)⟩, ?_⟩
    refine ⟨⟨rfl, by kernel_rfl, by decide, fun _ => ⟨_, Try.underlying27⟩, fun h => (by cases h), exists_of_isSome (by kernel_rfl)⟩, ?_⟩
    trivial
theorem tyOk29 : TIOk Try.prog 29 ⟨.st [⟨0, 1, true⟩, ⟨1, 3, true⟩], 4, 72, [.nil, .d (.v (.int .i64 0)), .d (.v (.string ⟨#[]⟩)), .nil]⟩ := by
  refine tiok_of (z := (.agg #[.slice none 0 0, .int .i64 0, .string ⟨#[]⟩, .slice none 0 0] : Value)) (by kernel_rfl) (by kernel_rfl) (by kernel_rfl) (by simp [ZsOk, ZOk, sc, Value.cells]) rfl (by decide) ?_ ?_ ?_
  · exact fun h => (by cases h)
  · exact fun _ => ⟨_, rfl⟩
  · refine ⟨_, Try.underlying29, ?_⟩
    refine ⟨⟨rfl, by kernel_rfl, by decide, fun _ => ⟨_, Try.underlying24⟩, fun h => (by cases h), exists_of_isSome (by kernel_rfl)⟩, ?_⟩
    refine ⟨⟨rfl, by kernel_rfl, by decide, fun _ => ⟨_, Try.underlying27⟩, fun h => (by cases h), exists_of_isSome (by kernel_rfl)⟩, ?_⟩
    trivial
theorem tyOk32 : TIOk Try.prog 32 ⟨.slc 125, 1, 24, [.nil]⟩ := by
  refine tiok_of (z := (.slice none 0 0 : Value)) (by kernel_rfl) (by kernel_rfl) (by kernel_rfl) (by simp [ZsOk, ZOk, sc, Value.cells]) rfl (by decide) ?_ ?_ ?_
  · exact fun _ => ⟨_, rfl, rfl⟩
  · exact fun h => (by cases h)
  · exact ⟨rfl, Try.underlying32⟩
theorem tyOk33 : TIOk Try.prog 33 ⟨.st [⟨0, 1, false⟩], 1, 24, [.nil]⟩ := by
  refine tiok_of (z := (.agg #[.slice none 0 0] : Value)) (by kernel_rfl) (by kernel_rfl) (by kernel_rfl) (by simp [ZsOk, ZOk, sc, Value.cells]) rfl (by decide) ?_ ?_ ?_
  · exact fun h => (by cases h)
  · exact fun _ => ⟨_, rfl⟩
  · refine ⟨_, Try.underlying33, ?_⟩
    refine ⟨⟨rfl, by kernel_rfl, by decide, fun h => (by cases h), fun _ => ⟨rfl, _, Try.underlying32, fun q h => (by cases h), fun n e h => (by cases h)⟩, exists_of_isSome (by kernel_rfl)⟩, ?_⟩
    trivial
theorem tyOk34 : TIOk Try.prog 34 ⟨.st [⟨0, 1, false⟩], 1, 24, [.nil]⟩ := by
  refine tiok_of (z := (.agg #[.slice none 0 0] : Value)) (by kernel_rfl) (by kernel_rfl) (by kernel_rfl) (by simp [ZsOk, ZOk, sc, Value.cells]) rfl (by decide) ?_ ?_ ?_
  · exact fun h => (by cases h)
  · exact fun _ => ⟨_, rfl⟩
  · refine ⟨_, Try.underlying34, ?_⟩
    refine ⟨⟨rfl, by kernel_rfl, by decide, fun h => (by cases h), fun _ => ⟨rfl, _, Try.underlying32, fun q h => (by cases h), fun n e h => (by cases h)⟩, exists_of_isSome (by kernel_rfl)⟩, ?_⟩
    trivial
theorem tyOk35 : TIOk Try.prog 35 ⟨.slc 37, 1, 24, [.nil]⟩ := by
  refine tiok_of (z := (.slice none 0 0 : Value)) (by kernel_rfl) (by kernel_rfl) (by kernel_rfl) (by simp [ZsOk, ZOk, sc, Value.cells]) rfl (by decide) ?_ ?_ ?_
  · exact fun _ => ⟨_, rfl, rfl⟩
  · exact fun h => (by cases h)
  · exact ⟨rfl, Try.underlying35⟩
theorem tyOk36 : TIOk Try.prog 36 ⟨.st [⟨0, 1, false⟩, ⟨1, 1, false⟩, ⟨2, 1, false⟩], 3, 48, [.d (.v (.int .i64 0)), .d (.v (.string ⟨#[]⟩)), .nil]⟩ := by
  refine tiok_of (z := (.agg #[.int .i64 0, .string ⟨#[]⟩, .slice none 0 0] : Value)) (by kernel_rfl) (by kernel_rfl) (by kernel_rfl) (by simp [ZsOk, ZOk, sc, Value.cells]) rfl (by decide) ?_ ?_ ?_
  · exact fun h => (by cases h)
  · exact fun _ => ⟨_, rfl⟩
  · refine ⟨_, Try.underlying36, ?_⟩
    refine ⟨⟨rfl, by kernel_rfl, by decide, fun h => (by cases h), fun _ => ⟨rfl, _, Try.underlying3, fun q h => (by cases h), fun n e h => (by cases h)⟩, exists_of_isSome (by kernel_rfl)⟩, ?_⟩
    refine ⟨⟨rfl, by kernel_rfl, by decide, fun h => (by cases h), fun _ => ⟨rfl, _, Try.underlying9, fun q h => (by cases h), fun n e h => (by cases h)⟩, exists_of_isSome (by kernel_rfl)⟩, ?_⟩
    refine ⟨⟨rfl, by kernel_rfl, by decide, fun h => (by cases h), fun _ => ⟨rfl, _, Try.underlying35, fun q h => (by cases h), fun n e h => (by cases h)⟩, exists_of_isSome (by kernel_rfl)⟩, ?_⟩
    trivial
theorem tyOk37 : TIOk Try.prog 37 ⟨.st [⟨0, 1, false⟩, ⟨1, 1, false⟩, ⟨2, 1, false⟩], 3, 48, [.d (.v (.int .i64 0)), .d (.v (.string ⟨#[]⟩)), .nil]⟩ := by
  refine tiok_of (z := (.agg #[.int .i64 0, .string ⟨#[]⟩, .slice none 0 0] : Value)) (by kernel_rfl) (by kernel_rfl) (by kernel_rfl) (by simp [ZsOk, ZOk, sc, Value.cells]) rfl (by decide) ?_ ?_ ?_
  · exact fun h => (by cases h)
  · exact fun _ => ⟨_, rfl⟩
  · refine ⟨_, Try.underlying37, ?_⟩
    refine ⟨⟨rfl, by kernel_rfl, by decide, fun h => (by cases h), fun _ => ⟨rfl, _, Try.underlying3, fun q h => (by cases h), fun n e h => (by cases h)⟩, exists_of_isSome (by kernel_rfl)⟩, ?_⟩
    refine ⟨⟨rfl, by kernel_rfl, by decide, fun h => (by cases h), fun _ => ⟨rfl, _, Try.underlying9, fun q h => (by cases h), fun n e h => (by cases h)⟩, exists_of_isSome (by kernel_rfl)⟩, ?_⟩
    refine ⟨⟨rfl, by kernel_rfl, by decide, fun h => (by cases h), fun _ => ⟨rfl, _, Try.underlying35, fun q h => (by cases h), fun n e h => (by cases h)⟩, exists_of_isSome (by kernel_rfl)⟩, ?_⟩
    trivial
theorem tyOk38 : TIOk Try.prog 38 ⟨.st [⟨0, 1, true⟩, ⟨1, 3, true⟩], 4, 72, [.nil, .d (.v (.int .i64 0)), .d (.v (.string ⟨#[]⟩)), .nil]⟩ := by
  refine tiok_of (z := (.agg #[.slice none 0 0, .int .i64 0, .string ⟨#[]⟩, .slice none 0 0] : Value)) (by kernel_rfl) (by kernel_rfl) (by kernel_rfl) (by simp [ZsOk, ZOk, sc, Value.cells]) rfl (by decide) ?_ ?_ ?_
  · exact fun h => (by cases h)
  · exact fun _ => ⟨_, rfl⟩
  · refine ⟨_, Try.underlying38, ?_⟩
    refine ⟨⟨rfl, by kernel_rfl, by decide, fun _ => ⟨_, Try.underlying34⟩, fun h => (by cases h), exists_of_isSome (by kernel_rfl)⟩, ?_⟩
    refine ⟨⟨rfl, by kernel_rfl, by decide, fun _ => ⟨_, Try.underlying37⟩, fun h => (by cases h), exists_of_isSome (by kernel_rfl)⟩, ?_⟩
    trivial
theorem tyOk39 : TIOk Try.prog 39 ⟨.st [⟨0, 1, true⟩, ⟨1, 3, true⟩], 4, 72, [.nil, .d (.v (.int .i64 0)), .d (.v (.string ⟨#[]⟩)), .nil]⟩ := by
  refine tiok_of (z := (.agg #[.slice none 0 0, .int .i64 0, .string ⟨#[]⟩, .slice none 0 0] : Value)) (by kernel_rfl) (by kernel_rfl) (by kernel_rfl) (by simp [ZsOk, ZOk, sc, Value.cells]) rfl (by decide) ?_ ?_ ?_
  · exact fun h => (by cases h)
  · exact fun _ => ⟨_, rfl⟩
  · refine ⟨_, Try.underlying39, ?_⟩
    refine ⟨⟨rfl, by kernel_rfl, by decide, fun _ => ⟨_, Try.underlying34⟩, fun h => (by cases h), exists_of_isSome (by kernel_rfl)⟩, ?_⟩
    refine ⟨⟨rfl, by kernel_rfl, by decide, fun _ => ⟨_, Try.underlying37⟩, fun h => (by cases h), exists_of_isSome (by kernel_rfl)⟩, ?_⟩
    trivial
theorem tyOk42 : TIOk Try.prog 42 ⟨.slc 132, 1, 24, [.nil]⟩ := by
  refine tiok_of (z := (.slice none 0 0 : Value)) (by kernel_rfl) (by kernel_rfl) (by kernel_rfl) (by simp [ZsOk, ZOk, sc, Value.cells]) rfl (by decide) ?_ ?_ ?_
  · exact fun _ => ⟨_, rfl, rfl⟩
  · exact fun h => (by cases h)
  · exact ⟨rfl, Try.underlying42⟩
theorem tyOk43 : TIOk Try.prog 43 ⟨.st [⟨0, 1, false⟩], 1, 24, [.nil]⟩ := by
  refine tiok_of (z := (.agg #[.slice none 0 0] : Value)) (by kernel_rfl) (by kernel_rfl) (by kernel_rfl) (by simp [ZsOk, ZOk, sc, Value.cells]) rfl (by decide) ?_ ?_ ?_
  · exact fun h => (by cases h)
  · exact fun _ => ⟨_, rfl⟩
  · refine ⟨_, Try.underlying43, ?_⟩
    refine ⟨⟨rfl, by kernel_rfl, by decide, fun h => (by cases h), fun _ => ⟨rfl, _, Try.underlying42, fun q h => (by cases h), fun n e h => (by cases h)⟩, exists_of_isSome (by kernel_rfl)⟩, ?_⟩
    trivial
theorem tyOk44 : TIOk Try.prog 44 ⟨.st [⟨0, 1, false⟩], 1, 24, [.nil]⟩ := by
  refine tiok_of (z := (.agg #[.slice none 0 0] : Value)) (by kernel_rfl) (by kernel_rfl) (by kernel_rfl) (by simp [ZsOk, ZOk, sc, Value.cells]) rfl (by decide) ?_ ?_ ?_
  · exact fun h => (by cases h)
  · exact fun _ => ⟨_, rfl⟩
  · refine ⟨_, Try.underlying44, ?_⟩
    refine ⟨⟨rfl, by kernel_rfl, by decide, fun h => (by cases h), fun _ => ⟨rfl, _, Try.underlying42, fun q h => (by cases h), fun n e h => (by cases h)⟩, exists_of_isSome (by kernel_rfl)⟩, ?_⟩
    trivial
theorem tyOk47 : TIOk Try.prog 47 ⟨.slc 84, 1, 24, [.nil]⟩ := by
  refine tiok_of (z := (.slice none 0 0 : Value)) (by kernel_rfl) (by kernel_rfl) (by kernel_rfl) (by simp [ZsOk, ZOk, sc, Value.cells]) rfl (by decide) ?_ ?_ ?_
  · exact fun _ => ⟨_, rfl, rfl⟩
  · exact fun h => (by cases h)
  · exact ⟨rfl, Try.underlying47⟩
theorem tyOk48 : TIOk Try.prog 48 ⟨.st [⟨0, 1, false⟩], 1, 24, [.nil]⟩ := by
  refine tiok_of (z := (.agg #[.slice none 0 0] : Value)) (by kernel_rfl) (by kernel_rfl) (by kernel_rfl) (by simp [ZsOk, ZOk, sc, Value.cells]) rfl (by decide) ?_ ?_ ?_
  · exact fun h => (by cases h)
  · exact fun _ => ⟨_, rfl⟩
  · refine ⟨_, Try.underlying48, ?_⟩
    refine ⟨⟨rfl, by kernel_rfl, by decide, fun h => (by cases h), fun _ => ⟨rfl, _, Try.underlying47, fun q h => (by cases h), fun n e h => (by cases h)⟩, exists_of_isSome (by kernel_rfl)⟩, ?_⟩
    trivial
theorem tyOk49 : TIOk Try.prog 49 ⟨.st [⟨0, 1, false⟩], 1, 24, [.nil]⟩ := by
  refine tiok_of (z := (.agg #[.slice none 0 0] : Value)) (by kernel_rfl) (by kernel_rfl) (by kernel_rfl) (by simp [ZsOk, ZOk, sc, Value.cells]) rfl (by decide) ?_ ?_ ?_
  · exact fun h => (by cases h)
  · exact fun _ => ⟨_, rfl⟩
  · refine ⟨_, Try.underlying49, ?_⟩
    refine ⟨⟨rfl, by kernel_rfl, by decide, fun h => (by cases h), fun _ => ⟨rfl, _, Try.underlying47, fun q h => (by cases h), fun n e h => (by cases h)⟩, exists_of_isSome (by kernel_rfl)⟩, ?_⟩
    trivial
theorem tyOk61 : TIOk Try.prog 61 ⟨.slc 9, 1, 24, [.nil]⟩ := by
  refine tiok_of (z := (.slice none 0 0 : Value)) (by kernel_rfl) (by kernel_rfl) (by kernel_rfl) (by simp [ZsOk, ZOk, sc, Value.cells]) rfl (by decide) ?_ ?_ ?_
  · exact fun _ => ⟨_, rfl, rfl⟩
  · exact fun h => (by cases h)
  · exact ⟨rfl, Try.underlying61⟩
theorem tyOk62 : TIOk Try.prog 62 ⟨.slc 3, 1, 24, [.nil]⟩ := by
  refine tiok_of (z := (.slice none 0 0 : Value)) (by kernel_rfl) (by kernel_rfl) (by kernel_rfl) (by simp [ZsOk, ZOk, sc, Value.cells]) rfl (by decide) ?_ ?_ ?_
  · exact fun _ => ⟨_, rfl, rfl⟩
  · exact fun h => (by cases h)
  · exact ⟨rfl, Try.underlying62⟩
theorem tyOk63 : TIOk Try.prog 63 ⟨.slc 62, 1, 24, [.nil]⟩ := by
  refine tiok_of (z := (.slice none 0 0 : Value)) (by kernel_rfl) (by kernel_rfl) (by kernel_rfl) (by simp [ZsOk, ZOk, sc, Value.cells]) rfl (by decide) ?_ ?_ ?_
  · exact fun _ => ⟨_, rfl, rfl⟩
  · exact fun h => (by cases h)
  · exact ⟨rfl, Try.underlying63⟩
theorem tyOk64 : TIOk Try.prog 64 ⟨.st [⟨0, 1, false⟩, ⟨1, 1, false⟩, ⟨2, 1, false⟩, ⟨3, 1, false⟩, ⟨4, 1, false⟩, ⟨5, 1, false⟩, ⟨6, 1, false⟩], 7, 152, [.nil, .nil, .nil, .nil, .nil, .nil, .d (.v (.int .i64 0))]⟩ := by
  refine tiok_of (z := (.agg #[.slice none 0 0, .slice none 0 0, .slice none 0 0, .slice none 0 0, .slice none 0 0, .slice none 0 0, .int .i64 0] : Value)) (by kernel_rfl) (by kernel_rfl) (by kernel_rfl) (by simp [ZsOk, ZOk, sc, Value.cells]) rfl (by decide) ?_ ?_ ?_
  · exact fun h => (by cases h)
  · exact fun _ => ⟨_, rfl⟩
  · refine ⟨_, Try.underlying64, ?_⟩
    refine ⟨⟨rfl, by kernel_rfl, by decide, fun h => (by cases h), fun _ => ⟨rfl, _, Try.underlying61, fun q h => (by cases h), fun n e h => (by cases h)⟩, exists_of_isSome (by kernel_rfl)⟩, ?_⟩
    refine ⟨⟨rfl, by kernel_rfl, by decide, fun h => (by cases h), fun _ => ⟨rfl, _, Try.underlying62, fun q h => (by cases h), fun n e h => (by cases h)⟩, exists_of_isSome (by kernel_rfl)⟩, ?_⟩
    refine ⟨⟨rfl, by kernel_rfl, by decide, fun h => (by cases h), fun _ => ⟨rfl, _, Try.underlying63, fun q h => (by cases h), fun n e h => (by cases h)⟩, exists_of_isSome (by kernel_rfl)⟩, ?_⟩
    refine ⟨⟨rfl, by kernel_rfl, by decide, fun h => (by cases h), fun _ => ⟨rfl, _, Try.underlying61, fun q h => (by cases h), fun n e h => (by cases h)⟩, exists_of_isSome (by kernel_rfl)⟩, ?_⟩
    refine ⟨⟨rfl, by kernel_rfl, by decide, fun h => (by cases h), fun _ => ⟨rfl, _, Try.underlying63, fun q h => (by cases h), fun n e h => (by cases h)⟩, exists_of_isSome (by kernel_rfl)⟩, ?_⟩
    refine ⟨⟨rfl, by kernel_rfl, by decide, fun h => (by cases h), fun _ => ⟨rfl, _, Try.underlying62, fun q h => (by cases h), fun n e h => (by cases h)⟩, exists_of_isSome (by kernel_rfl)⟩, ?_⟩
    refine ⟨⟨rfl, by kernel_rfl, by decide, fun h => (by cases h), fun _ => ⟨rfl, _, Try.underlying3, fun q h => (by cases h), fun n e h => (by cases h)⟩, exists_of_isSome (by kernel_rfl)⟩, ?_⟩
    trivial
theorem tyOk65 : TIOk Try.prog 65 ⟨.st [⟨0, 1, false⟩, ⟨1, 1, false⟩, ⟨2, 1, false⟩, ⟨3, 1, false⟩, ⟨4, 1, false⟩, ⟨5, 1, false⟩, ⟨6, 1, false⟩], 7, 152, [.nil, .nil, .nil, .nil, .nil, .nil, .d (.v (.int .i64 0))]⟩ := by
  refine tiok_of (z := (.agg #[.slice none 0 0, .slice none 0 0, .slice none 0 0, .slice none 0 0, .slice none 0 0, .slice none 0 0, .int .i64 0] : Value)) (by kernel_rfl) (by kernel_rfl) (by kernel_rfl) (by simp [ZsOk, ZOk, sc, Value.cells]) rfl (by decide) ?_ ?_ ?_
  · exact fun h => (by cases h)
  · exact fun _ => ⟨_, rfl⟩
  · refine ⟨_, Try.underlying65, ?_⟩
    refine ⟨⟨rfl, by kernel_rfl, by decide, fun h => (by cases h), fun _ => ⟨rfl, _, Try.underlying61, fun q h => (by cases h), fun n e h => (by cases h)⟩, exists_of_isSome (by kernel_rfl)⟩, ?_⟩
    refine ⟨⟨rfl, by kernel_rfl, by decide, fun h => (by cases h), fun _ => ⟨rfl, _, Try.underlying62, fun q h => (by cases h), fun n e h => (by cases h)⟩, exists_of_isSome (by kernel_rfl)⟩, ?_⟩
    refine ⟨⟨rfl, by kernel_rfl, by decide, fun h => (by cases h), fun _ => ⟨rfl, _, Try.underlying63, fun q h => (by cases h), fun n e h => (by cases h)⟩, exists_of_isSome (by kernel_rfl)⟩, ?_⟩
    refine ⟨⟨rfl, by kernel_rfl, by decide, fun h => (by cases h), fun _ => ⟨rfl, _, Try.underlying61, fun q h => (by cases h), fun n e h => (by cases h)⟩, exists_of_isSome (by kernel_rfl)⟩, ?_⟩
    refine ⟨⟨rfl, by kernel_rfl, by decide, fun h => (by cases h), fun _ => ⟨rfl, _, Try.underlying63, fun q h => (by cases h), fun n e h => (by cases h)⟩, exists_of_isSome (by kernel_rfl)⟩, ?_⟩
    refine ⟨⟨rfl, by kernel_rfl, by decide, fun h => (by cases h), fun _ => ⟨rfl, _, Try.underlying62, fun q h => (by cases h), fun n e h => (by cases h)⟩, exists_of_isSome (by kernel_rfl)⟩, ?_⟩
    refine ⟨⟨rfl, by kernel_rfl, by decide, fun h => (by cases h), fun _ => ⟨rfl, _, Try.underlying3, fun q h => (by cases h), fun n e h => (by cases h)⟩, exists_of_isSome (by kernel_rfl)⟩, ?_⟩
    trivial
theorem tyOk66 : TIOk Try.prog 66 ⟨.slc 109, 1, 24, [.nil]⟩ := by
  refine tiok_of (z := (.slice none 0 0 : Value)) (by kernel_rfl) (by kernel_rfl) (by kernel_rfl) (by simp [ZsOk, ZOk, sc, Value.cells]) rfl (by decide) ?_ ?_ ?_
  · exact fun _ => ⟨_, rfl, rfl⟩
  · exact fun h => (by cases h)
  · exact ⟨rfl, Try.underlying66⟩
theorem tyOk71 : TIOk Try.prog 71 ⟨.st [⟨0, 1, false⟩, ⟨1, 1, false⟩, ⟨2, 1, false⟩, ⟨3, 1, false⟩, ⟨4, 1, false⟩, ⟨5, 1, false⟩, ⟨6, 1, false⟩], 7, 152, [.nil, .nil, .nil, .nil, .nil, .nil, .d (.v (.int .i64 0))]⟩ := by
  refine tiok_of (z := (.agg #[.slice none 0 0, .slice none 0 0, .slice none 0 0, .slice none 0 0, .slice none 0 0, .slice none 0 0, .int .i64 0] : Value)) (by kernel_rfl) (by kernel_rfl) (by kernel_rfl) (by simp [ZsOk, ZOk, sc, Value.cells]) rfl (by decide) ?_ ?_ ?_
  · exact fun h => (by cases h)
  · exact fun _ => ⟨_, rfl⟩
  · refine ⟨_, Try.underlying71, ?_⟩
    refine ⟨⟨rfl, by kernel_rfl, by decide, fun h => (by cases h), fun _ => ⟨rfl, _, Try.underlying61, fun q h => (by cases h), fun n e h => (by cases h)⟩, exists_of_isSome (by kernel_rfl)⟩, ?_⟩
    refine ⟨⟨rfl, by kernel_rfl, by decide, fun h => (by cases h), fun _ => ⟨rfl, _, Try.underlying62, fun q h => (by cases h), fun n e h => (by cases h)⟩, exists_of_isSome (by kernel_rfl)⟩, ?_⟩
    refine ⟨⟨rfl, by kernel_rfl, by decide, fun h => (by cases h), fun _ => ⟨rfl, _, Try.underlying63, fun q h => (by cases h), fun n e h => (by cases h)⟩, exists_of_isSome (by kernel_rfl)⟩, ?_⟩
    refine ⟨⟨rfl, by kernel_rfl, by decide, fun h => (by cases h), fun _ => ⟨rfl, _, Try.underlying61, fun q h => (by cases h), fun n e h => (by cases h)⟩, exists_of_isSome (by kernel_rfl)⟩, ?_⟩
    refine ⟨⟨rfl, by kernel_rfl, by decide, fun h => (by cases h), fun _ => ⟨rfl, _, Try.underlying63, fun q h => (by cases h), fun n e h => (by cases h)⟩, exists_of_isSome (by kernel_rfl)⟩, ?_⟩
    refine ⟨⟨rfl, by kernel_rfl, by decide, fun h => (by cases h), fun _ => ⟨rfl, _, Try.underlying62, fun q h => (by cases h), fun n e h => (by cases h)⟩, exists_of_isSome (by kernel_rfl)⟩, ?_⟩
    refine ⟨⟨rfl, by kernel_rfl, by decide, fun h => (by cases h), fun _ => ⟨rfl, _, Try.underlying3, fun q h => (by cases h), fun n e h => (by cases h)⟩, exists_of_isSome (by kernel_rfl)⟩, ?_⟩
    trivial
theorem tyOk74 : TIOk Try.prog 74 ⟨.slc 117, 1, 24, [.nil]⟩ := by
  refine tiok_of (z := (.slice none 0 0 : Value)) (by kernel_rfl) (by kernel_rfl) (by kernel_rfl) (by simp [ZsOk, ZOk, sc, Value.cells]) rfl (by decide) ?_ ?_ ?_
  · exact fun _ => ⟨_, rfl, rfl⟩
  · exact fun h => (by cases h)
  · exact ⟨rfl, Try.underlying74⟩
theorem tyOk82 : TIOk Try.prog 82 ⟨.slc 135, 1, 24, [.nil]⟩ := by
  refine tiok_of (z := (.slice none 0 0 : Value)) (by kernel_rfl) (by kernel_rfl) (by kernel_rfl) (by simp [ZsOk, ZOk, sc, Value.cells]) rfl (by decide) ?_ ?_ ?_
  · exact fun _ => ⟨_, rfl, rfl⟩
  · exact fun h => (by cases h)
  · exact ⟨rfl, Try.underlying82⟩
theorem tyOk83 : TIOk Try.prog 83 ⟨.st [⟨0, 1, false⟩, ⟨1, 3, true⟩, ⟨4, 1, false⟩, ⟨5, 1, false⟩, ⟨6, 1, false⟩, ⟨7, 1, false⟩, ⟨8, 1, false⟩, ⟨9, 1, false⟩, ⟨10, 1, false⟩], 11, 176, [.d (.v (.int .i64 0)), .d (.v (.int .i64 0)), .d (.v (.string ⟨#[]⟩)), .nil, .d (.v (.int .i64 0)), .nil, .d (.v (.string ⟨#[]⟩)), .d (.v (.string ⟨#[]⟩)), .nil, .nil, .d (.v (.int .i64 0))]⟩ := by
  refine tiok_of (z := (.agg #[.int .i64 0, .int .i64 0, .string ⟨#[]⟩, .slice none 0 0, .int .i64 0, .slice none 0 0, .string ⟨#[]⟩, .string ⟨#[]⟩, .slice none 0 0, .slice none 0 0, .int .i64 0] : Value)) (by kernel_rfl) (by kernel_rfl) (by kernel_rfl) (by simp [ZsOk, ZOk, sc, Value.cells]) rfl (by decide) ?_ ?_ ?_
  · exact fun h => (by cases h)
  · exact fun _ => ⟨_, rfl⟩
  · refine ⟨_, Try.underlying83, ?_⟩
    refine ⟨⟨rfl, by kernel_rfl, by decide, fun h => (by cases h), fun _ => ⟨rfl, _, Try.underlying3, fun q h => (by cases h), fun n e h => (by cases h)⟩, exists_of_isSome (by kernel_rfl)⟩, ?_⟩
    refine ⟨⟨rfl, by kernel_rfl, by decide, fun _ => ⟨_, Try.underlying37⟩, fun h => (by cases h), exists_of_isSome (by kernel_rfl)⟩, ?_⟩
    refine ⟨⟨rfl, by kernel_rfl, by decide, fun h => (by cases h), fun _ => ⟨rfl, _, Try.underlying3, fun q h => (by cases h), fun n e h => (by cases h)⟩, exists_of_isSome (by kernel_rfl)⟩, ?_⟩
    refine ⟨⟨rfl, by kernel_rfl, by decide, fun h => (by cases h), fun _ => ⟨rfl, _, Try.underlying62, fun q h => (by cases h), fun n e h => (by cases h)⟩, exists_of_isSome (by kernel_rfl)⟩, ?_⟩
    refine ⟨⟨rfl, by kernel_rfl, by decide, fun h => (by cases h), fun _ => ⟨rfl, _, Try.underlying9, fun q h => (by cases h), fun n e h => (by cases h)⟩, exists_of_isSome (by kernel_rfl)⟩, ?_⟩
    refine ⟨⟨rfl, by kernel_rfl, by decide, fun h => (by cases h), fun _ => ⟨rfl, _, Try.underlying9, fun q h => (by cases h), fun n e h => (by cases h)⟩, exists_of_isSome (by kernel_rfl)⟩, ?_⟩
    refine ⟨⟨rfl, by kernel_rfl, by decide, fun h => (by cases h), fun _ => ⟨rfl, _, Try.underlying61, fun q h => (by cases h), fun n e h => (by cases h)⟩, exists_of_isSome (by kernel_rfl)⟩, ?_⟩
    refine ⟨⟨rfl, by kernel_rfl, by decide, fun h => (by cases h), fun _ => ⟨rfl, _, Try.underlying82, fun q h => (by cases h), fun n e h => (by cases h)⟩, exists_of_isSome (by kernel_rfl)⟩, ?_⟩
    refine ⟨⟨rfl, by kernel_rfl, by decide, fun h => (by cases h), fun _ => ⟨rfl, _, Try.underlying3, fun q h => (by cases h), fun n e h => (by cases h)⟩, exists_of_isSome (by kernel_rfl)⟩, ?_⟩
    trivial
theorem tyOk84 : TIOk Try.prog 84 ⟨.st [⟨0, 1, false⟩, ⟨1, 3, true⟩, ⟨4, 1, false⟩, ⟨5, 1, false⟩, ⟨6, 1, false⟩, ⟨7, 1, false⟩, ⟨8, 1, false⟩, ⟨9, 1, false⟩, ⟨10, 1, false⟩], 11, 176, [.d (.v (.int .i64 0)), .d (.v (.int .i64 0)), .d (.v (.string ⟨#[]⟩)), .nil, .d (.v (.int .i64 0)), .nil, .d (.v (.string ⟨#[]⟩)), .d (.v (.string ⟨#[]⟩)), .nil, .nil, .d (.v (.int .i64 0))]⟩ := by
  refine tiok_of (z := (.agg #[.int .i64 0, .int .i64 0, .string ⟨#[]⟩, .slice none 0 0, .int .i64 0, .slice none 0 0, .string ⟨#[]⟩, .string ⟨#[]⟩, .slice none 0 0, .slice none 0 0, .int .i64 0] : Value)) (by kernel_rfl) (by kernel_rfl) (by kernel_rfl) (by simp [ZsOk, ZOk, sc, Value.cells]) rfl (by decide) ?_ ?_ ?_
  · exact fun h => (by cases h)
  · exact fun _ => ⟨_, rfl⟩
  · refine ⟨_, Try.underlying84, ?_⟩
    refine ⟨⟨rfl, by kernel_rfl, by decide, fun h => (by cases h), fun _ => ⟨rfl, _, Try.underlying3, fun q h => (by cases h), fun n e h => (by cases h)⟩, exists_of_isSome (by kernel_rfl)⟩, ?_⟩
    refine ⟨⟨rfl, by kernel_rfl, by decide, fun _ => ⟨_, Try.underlying37⟩, fun h => (by cases h), exists_of_isSome (by kernel_rfl)⟩, ?_⟩
    refine ⟨⟨rfl, by kernel_rfl, by decide, fun h => (by cases h), fun _ => ⟨rfl, _, Try.underlying3, fun q h => (by cases h), fun n e h => (by cases h)⟩, exists_of_isSome (by kernel_rfl)⟩, ?_⟩
    refine ⟨⟨rfl, by kernel_rfl, by decide, fun h => (by cases h), fun _ => ⟨rfl, _, Try.underlying62, fun q h => (by cases h), fun n e h => (by cases h)⟩, exists_of_isSome (by kernel_rfl)⟩, ?_⟩
    refine ⟨⟨rfl, by kernel_rfl, by decide, fun h => (by cases h), fun _ => ⟨rfl, _, Try.underlying9, fun q h => (by cases h), fun n e h => (by cases h)⟩, exists_of_isSome (by kernel_rfl)⟩, ?_⟩
    refine ⟨⟨rfl, by kernel_rfl, by decide, fun h => (by cases h), fun _ => ⟨rfl, _, Try.underlying9, fun q h => (by cases h), fun n e h => (by cases h)⟩, exists_of_isSome (by kernel_rfl)⟩, ?_⟩
    refine ⟨⟨rfl, by kernel_rfl, by decide, fun h => (by cases h), fun _ => ⟨rfl, _, Try.underlying61, fun q h => (by cases h), fun n e h => (by cases h)⟩, exists_of_isSome (by kernel_rfl)⟩, ?_⟩
    refine ⟨⟨rfl, by kernel_rfl, by decide, fun h => (by cases h), fun _ => ⟨rfl, _, Try.underlying82, fun q h => (by cases h), fun n e h => (by cases h)⟩, exists_of_isSome (by kernel_rfl)⟩, ?_⟩
    refine ⟨⟨rfl, by kernel_rfl, by decide, fun h => (by cases h), fun _ => ⟨rfl, _, Try.underlying3, fun q h => (by cases h), fun n e h => (by cases h)⟩, exists_of_isSome (by kernel_rfl)⟩, ?_⟩
    trivial
theorem tyOk108 : TIOk Try.prog 108 ⟨.st [⟨0, 1, false⟩, ⟨1, 1, false⟩], 2, 24, [.d (.v (.string ⟨#[]⟩)), .d (.v (.int .i64 0))]⟩ := by
  refine tiok_of (z := (.agg #[.string ⟨#[]⟩, .int .i64 0] : Value)) (by kernel_rfl) (by kernel_rfl) (by kernel_rfl) (by simp [ZsOk, ZOk, sc, Value.cells]) rfl (by decide) ?_ ?_ ?_
  · exact fun h => (by cases h)
  · exact fun _ => ⟨_, rfl⟩
  · refine ⟨_, Try.underlying108, ?_⟩
    refine ⟨⟨rfl, by kernel_rfl, by decide, fun h => (by cases h), fun _ => ⟨rfl, _, Try.underlying9, fun q h => (by cases h), fun n e h => (by cases h)⟩, exists_of_isSome (by kernel_rfl)⟩, ?_⟩
    refine ⟨⟨rfl, by kernel_rfl, by decide, fun h => (by cases h), fun _ => ⟨rfl, _, Try.underlying3, fun q h => (by cases h), fun n e h => (by cases h)⟩, exists_of_isSome (by kernel_rfl)⟩, ?_⟩
    trivial
theorem tyOk109 : TIOk Try.prog 109 ⟨.st [⟨0, 1, false⟩, ⟨1, 1, false⟩], 2, 24, [.d (.v (.string ⟨#[]⟩)), .d (.v (.int .i64 0))]⟩ := by
  refine tiok_of (z := (.agg #[.string ⟨#[]⟩, .int .i64 0] : Value)) (by kernel_rfl) (by kernel_rfl) (by kernel_rfl) (by simp [ZsOk, ZOk, sc, Value.cells]) rfl (by decide) ?_ ?_ ?_
  · exact fun h => (by cases h)
  · exact fun _ => ⟨_, rfl⟩
  · refine ⟨_, Try.underlying109, ?_⟩
    refine ⟨⟨rfl, by kernel_rfl, by decide, fun h => (by cases h), fun _ => ⟨rfl, _, Try.underlying9, fun q h => (by cases h), fun n e h => (by cases h)⟩, exists_of_isSome (by kernel_rfl)⟩, ?_⟩
    refine ⟨⟨rfl, by kernel_rfl, by decide, fun h => (by cases h), fun _ => ⟨rfl, _, Try.underlying3, fun q h => (by cases h), fun n e h => (by cases h)⟩, exists_of_isSome (by kernel_rfl)⟩, ?_⟩
    trivial
theorem tyOk117 : TIOk Try.prog 117 ⟨.st [⟨0, 1, false⟩, ⟨1, 1, false⟩], 2, 24, [.d (.v (.string ⟨#[]⟩)), .d (.v (.int .i64 0))]⟩ := by
  refine tiok_of (z := (.agg #[.string ⟨#[]⟩, .int .i64 0] : Value)) (by kernel_rfl) (by kernel_rfl) (by kernel_rfl) (by simp [ZsOk, ZOk, sc, Value.cells]) rfl (by decide) ?_ ?_ ?_
  · exact fun h => (by cases h)
  · exact fun _ => ⟨_, rfl⟩
  · refine ⟨_, Try.underlying117, ?_⟩
    refine ⟨⟨rfl, by kernel_rfl, by decide, fun h => (by cases h), fun _ => ⟨rfl, _, Try.underlying9, fun q h => (by cases h), fun n e h => (by cases h)⟩, exists_of_isSome (by kernel_rfl)⟩, ?_⟩
    refine ⟨⟨rfl, by kernel_rfl, by decide, fun h => (by cases h), fun _ => ⟨rfl, _, Try.underlying3, fun q h => (by cases h), fun n e h => (by cases h)⟩, exists_of_isSome (by kernel_rfl)⟩, ?_⟩
    trivial
theorem tyOk124 : TIOk Try.prog 124 ⟨.st [⟨0, 1, false⟩, ⟨1, 1, false⟩, ⟨2, 1, false⟩, ⟨3, 1, false⟩, ⟨4, 3, true⟩], 7, 128, [.d (.v (.string ⟨#[]⟩)), .d (.v (.string ⟨#[]⟩)), .nil, .nil, .d (.v (.int .i64 0)), .d (.v (.string ⟨#[]⟩)), .nil]⟩ := by
  refine tiok_of (z := (.agg #[.string ⟨#[]⟩, .string ⟨#[]⟩, .slice none 0 0, .slice none 0 0, .int .i64 0, .string ⟨#[]⟩, .slice none 0 0] : Value)) (by kernel_rfl) (by kernel_rfl) (by kernel_rfl) (by simp [ZsOk, ZOk, sc, Value.cells]) rfl (by decide) ?_ ?_ ?_
  · exact fun h => (by cases h)
  · exact fun _ => ⟨_, rfl⟩
  · refine ⟨_, Try.underlying124, ?_⟩
    refine ⟨⟨rfl, by kernel_rfl, by decide, fun h => (by cases h), fun _ => ⟨rfl, _, Try.underlying9, fun q h => (by cases h), fun n e h => (by cases h)⟩, exists_of_isSome (by kernel_rfl)⟩, ?_⟩
    refine ⟨⟨rfl, by kernel_rfl, by decide, fun h => (by cases h), fun _ => ⟨rfl, _, Try.underlying9, fun q h => (by cases h), fun n e h => (by cases h)⟩, exists_of_isSome (by kernel_rfl)⟩, ?_⟩
    refine ⟨⟨rfl, by kernel_rfl, by decide, fun h => (by cases h), fun _ => ⟨rfl, _, Try.underlying61, fun q h => (by cases h), fun n e h => (by cases h)⟩, exists_of_isSome (by kernel_rfl)⟩, ?_⟩
    refine ⟨⟨rfl, by kernel_rfl, by decide, fun h => (by cases h), fun _ => ⟨rfl, _, Try.underlying61, fun q h => (by cases h), fun n e h => (by cases h)⟩, exists_of_isSome (by kernel_rfl)⟩, ?_⟩
    refine ⟨⟨rfl, by kernel_rfl, by decide, fun _ => ⟨_, Try.underlying37⟩, fun h => (by cases h), exists_of_isSome (by kernel_rfl)⟩, ?_⟩
    trivial
theorem tyOk125 : TIOk Try.prog 125 ⟨.st [⟨0, 1, false⟩, ⟨1, 1, false⟩, ⟨2, 1, false⟩, ⟨3, 1, false⟩, ⟨4, 3, true⟩], 7, 128, [.d (.v (.string ⟨#[]⟩)), .d (.v (.string ⟨#[]⟩)), .nil, .nil, .d (.v (.int .i64 0)), .d (.v (.string ⟨#[]⟩)), .nil]⟩ := by
  refine tiok_of (z := (.agg #[.string ⟨#[]⟩, .string ⟨#[]⟩, .slice none 0 0, .slice none 0 0, .int .i64 0, .string ⟨#[]⟩, .slice none 0 0] : Value)) (by kernel_rfl) (by kernel_rfl) (by kernel_rfl) (by simp [ZsOk, ZOk, sc, Value.cells]) rfl (by decide) ?_ ?_ ?_
  · exact fun h => (by cases h)
  · exact fun _ => ⟨_, rfl⟩
  · refine ⟨_, Try.underlying125, ?_⟩
    refine ⟨⟨rfl, by kernel_rfl, by decide, fun h => (by cases h), fun _ => ⟨rfl, _, Try.underlying9, fun q h => (by cases h), fun n e h => (by cases h)⟩, exists_of_isSome (by kernel_rfl)⟩, ?_⟩
    refine ⟨⟨rfl, by kernel_rfl, by decide, fun h => (by cases h), fun _ => ⟨rfl, _, Try.underlying9, fun q h => (by cases h), fun n e h => (by cases h)⟩, exists_of_isSome (by kernel_rfl)⟩, ?_⟩
    refine ⟨⟨rfl, by kernel_rfl, by decide, fun h => (by cases h), fun _ => ⟨rfl, _, Try.underlying61, fun q h => (by cases h), fun n e h => (by cases h)⟩, exists_of_isSome (by kernel_rfl)⟩, ?_⟩
    refine ⟨⟨rfl, by kernel_rfl, by decide, fun h => (by cases h), fun _ => ⟨rfl, _, Try.underlying61, fun q h => (by cases h), fun n e h => (by cases h)⟩, exists_of_isSome (by kernel_rfl)⟩, ?_⟩
    refine ⟨⟨rfl, by kernel_rfl, by decide, fun _ => ⟨_, Try.underlying37⟩, fun h => (by cases h), exists_of_isSome (by kernel_rfl)⟩, ?_⟩
    trivial
theorem tyOk130 : TIOk Try.prog 130 ⟨.slc 156, 1, 24, [.nil]⟩ := by
  refine tiok_of (z := (.slice none 0 0 : Value)) (by kernel_rfl) (by kernel_rfl) (by kernel_rfl) (by simp [ZsOk, ZOk, sc, Value.cells]) rfl (by decide) ?_ ?_ ?_
  · exact fun _ => ⟨_, rfl, rfl⟩
  · exact fun h => (by cases h)
  · exact ⟨rfl, Try.underlying130⟩
theorem tyOk131 : TIOk Try.prog 131 ⟨.st [⟨0, 1, false⟩, ⟨1, 3, true⟩, ⟨4, 1, false⟩, ⟨5, 1, false⟩, ⟨6, 1, false⟩, ⟨7, 1, false⟩, ⟨8, 1, false⟩, ⟨9, 1, false⟩, ⟨10, 1, false⟩], 11, 176, [.d (.v (.int .i64 0)), .d (.v (.int .i64 0)), .d (.v (.string ⟨#[]⟩)), .nil, .d (.v (.int .i64 0)), .nil, .d (.v (.string ⟨#[]⟩)), .d (.v (.string ⟨#[]⟩)), .nil, .nil, .d (.v (.int .i64 0))]⟩ := by
  refine tiok_of (z := (.agg #[.int .i64 0, .int .i64 0, .string ⟨#[]⟩, .slice none 0 0, .int .i64 0, .slice none 0 0, .string ⟨#[]⟩, .string ⟨#[]⟩, .slice none 0 0, .slice none 0 0, .int .i64 0] : Value)) (by kernel_rfl) (by kernel_rfl) (by kernel_rfl) (by simp [ZsOk, ZOk, sc, Value.cells]) rfl (by decide) ?_ ?_ ?_
  · exact fun h => (by cases h)
  · exact fun _ => ⟨_, rfl⟩
  · refine ⟨_, Try.underlying131, ?_⟩
    refine ⟨⟨rfl, by kernel_rfl, by decide, fun h => (by cases h), fun _ => ⟨rfl, _, Try.underlying3, fun q h => (by cases h), fun n e h => (by cases h)⟩, exists_of_isSome (by kernel_rfl)⟩, ?_⟩
    refine ⟨⟨rfl, by kernel_rfl, by decide, fun _ => ⟨_, Try.underlying27⟩, fun h => (by cases h), exists_of_isSome (by kernel_rfl)⟩, ?_⟩
    refine ⟨⟨rfl, by kernel_rfl, by decide, fun h => (by cases h), fun _ => ⟨rfl, _, Try.underlying3, fun q h => (by cases h), fun n e h => (by cases h)⟩, exists_of_isSome (by kernel_rfl)⟩, ?_⟩
    refine ⟨⟨rfl, by kernel_rfl, by decide, fun h => (by cases h), fun _ => ⟨rfl, _, Try.underlying62, fun q h => (by cases h), fun n e h => (by cases h)⟩, exists_of_isSome (by kernel_rfl)⟩, ?_⟩
    refine ⟨⟨rfl, by kernel_rfl, by decide, fun h => (by cases h), fun _ => ⟨rfl, _, Try.underlying9, fun q h => (by cases h), fun n e h => (by cases h)⟩, exists_of_isSome (by kernel_rfl)⟩, ?_⟩
    refine ⟨⟨rfl, by kernel_rfl, by decide, fun h => (by cases h), fun _ => ⟨rfl, _, Try.underlying9, fun q h => (by cases h), fun n e h => (by cases h)⟩, exists_of_isSome (by kernel_rfl)⟩, ?_⟩
    refine ⟨⟨rfl, by kernel_rfl, by decide, fun h => (by cases h), fun _ => ⟨rfl, _, Try.underlying61, fun q h => (by cases h), fun n e h => (by cases h)⟩, exists_of_isSome (by kernel_rfl)⟩, ?_⟩
    refine ⟨⟨rfl, by kernel_rfl, by decide, fun h => (by cases h), fun _ => ⟨rfl, _, Try.underlying130, fun q h => (by cases h), fun n e h => (by cases h)⟩, exists_of_isSome (by kernel_rfl)⟩, ?_⟩
    refine ⟨⟨rfl, by kernel_rfl, by decide, fun h => (by cases h), fun _ => ⟨rfl, _, Try.underlying3, fun q h => (by cases h), fun n e h => (by cases h)⟩, exists_of_isSome (by kernel_rfl)⟩, ?_⟩
    trivial
theorem tyOk132 : TIOk Try.prog 132 ⟨.st [⟨0, 1, false⟩, ⟨1, 3, true⟩, ⟨4, 1, false⟩, ⟨5, 1, false⟩, ⟨6, 1, false⟩, ⟨7, 1, false⟩, ⟨8, 1, false⟩, ⟨9, 1, false⟩, ⟨10, 1, false⟩], 11, 176, [.d (.v (.int .i64 0)), .d (.v (.int .i64 0)), .d (.v (.string ⟨#[]⟩)), .nil, .d (.v (.int .i64 0)), .nil, .d (.v (.string ⟨#[]⟩)), .d (.v (.string ⟨#[]⟩)), .nil, .nil, .d (.v (.int .i64 0))]⟩ := by
  refine tiok_of (z := (.agg #[.int .i64 0, .int .i64 0, .string ⟨#[]⟩, .slice none 0 0, .int .i64 0, .slice none 0 0, .string ⟨#[]⟩, .string ⟨#[]⟩, .slice none 0 0, .slice none 0 0, .int .i64 0] : Value)) (by kernel_rfl) (by kernel_rfl) (by kernel_rfl) (by simp [ZsOk, ZOk, sc, Value.cells]) rfl (by decide) ?_ ?_ ?_
  · exact fun h => (by cases h)
  · exact fun _ => ⟨_, rfl⟩
  · refine ⟨_, Try.underlying132, ?_⟩
    refine ⟨⟨rfl, by kernel_rfl, by decide, fun h => (by cases h), fun _ => ⟨rfl, _, Try.underlying3, fun q h => (by cases h), fun n e h => (by cases h)⟩, exists_of_isSome (by kernel_rfl)⟩, ?_⟩
    refine ⟨⟨rfl, by kernel_rfl, by decide, fun _ => ⟨_, Try.underlying27⟩, fun h => (by cases h), exists_of_isSome (by kernel_rfl)⟩, ?_⟩
    refine ⟨⟨rfl, by kernel_rfl, by decide, fun h => (by cases h), fun _ => ⟨rfl, _, Try.underlying3, fun q h => (by cases h), fun n e h => (by cases h)⟩, exists_of_isSome (by kernel_rfl)⟩, ?_⟩
    refine ⟨⟨rfl, by kernel_rfl, by decide, fun h => (by cases h), fun _ => ⟨rfl, _, Try.underlying62, fun q h => (by cases h), fun n e h => (by cases h)⟩, exists_of_isSome (by kernel_rfl)⟩, ?_⟩
    refine ⟨⟨rfl, by kernel_rfl, by decide, fun h => (by cases h), fun _ => ⟨rfl, _, Try.underlying9, fun q h => (by cases h), fun n e h => (by cases h)⟩, exists_of_isSome (by kernel_rfl)⟩, ?_⟩
    refine ⟨⟨rfl, by kernel_rfl, by decide, fun h => (by cases h), fun _ => ⟨rfl, _, Try.underlying9, fun q h => (by cases h), fun n e h => (by cases h)⟩, exists_of_isSome (by kernel_rfl)⟩, ?_⟩
    refine ⟨⟨rfl, by kernel_rfl, by decide, fun h => (by cases h), fun _ => ⟨rfl, _, Try.underlying61, fun q h => (by cases h), fun n e h => (by cases h)⟩, exists_of_isSome (by kernel_rfl)⟩, ?_⟩
    refine ⟨⟨rfl, by kernel_rfl, by decide, fun h => (by cases h), fun _ => ⟨rfl, _, Try.underlying130, fun q h => (by cases h), fun n e h => (by cases h)⟩, exists_of_isSome (by kernel_rfl)⟩, ?_⟩
    refine ⟨⟨rfl, by kernel_rfl, by decide, fun h => (by cases h), fun _ => ⟨rfl, _, Try.underlying3, fun q h => (by cases h), fun n e h => (by cases h)⟩, exists_of_isSome (by kernel_rfl)⟩, ?_⟩
    trivial
theorem tyOk134 : TIOk Try.prog 134 ⟨.st [⟨0, 1, false⟩, ⟨1, 3, true⟩], 4, 64, [.d (.v (.string ⟨#[]⟩)), .d (.v (.int .i64 0)), .d (.v (.string ⟨#[]⟩)), .nil]⟩ := by
  refine tiok_of (z := (.agg #[.string ⟨#[]⟩, .int .i64 0, .string ⟨#[]⟩, .slice none 0 0] : Value)) (by kernel_rfl) (by kernel_rfl) (by kernel_rfl) (by simp [ZsOk, ZOk, sc, Value.cells]) rfl (by decide) ?_ ?_ ?_
  · exact fun h => (by cases h)
  · exact fun _ => ⟨_, rfl⟩
  · refine ⟨_, Try.underlying134, ?_⟩
    refine ⟨⟨rfl, by kernel_rfl, by decide, fun h => (by cases h), fun _ => ⟨rfl, _, Try.underlying9, fun q h => (by cases h), fun n e h => (by cases h)⟩, exists_of_isSome (by kernel_rfl)⟩, ?_⟩
    refine ⟨⟨rfl, by kernel_rfl, by decide, fun _ => ⟨_, Try.underlying37⟩, fun h => (by cases h), exists_of_isSome (by kernel_rfl)⟩, ?_⟩
    trivial
theorem tyOk135 : TIOk Try.prog 135 ⟨.st [⟨0, 1, false⟩, ⟨1, 3, true⟩], 4, 64, [.d (.v (.string ⟨#[]⟩)), .d (.v (.int .i64 0)), .d (.v (.string ⟨#[]⟩)), .nil]⟩ := by
  refine tiok_of (z := (.agg #[.string ⟨#[]⟩, .int .i64 0, .string ⟨#[]⟩, .slice none 0 0] : Value)) (by kernel_rfl) (by kernel_rfl) (by kernel_rfl) (by simp [ZsOk, ZOk, sc, Value.cells]) rfl (by decide) ?_ ?_ ?_
  · exact fun h => (by cases h)
  · exact fun _ => ⟨_, rfl⟩
  · refine ⟨_, Try.underlying135, ?_⟩
    refine ⟨⟨rfl, by kernel_rfl, by decide, fun h => (by cases h), fun _ => ⟨rfl, _, Try.underlying9, fun q h => (by cases h), fun n e h => (by cases h)⟩, exists_of_isSome (by kernel_rfl)⟩, ?_⟩
    refine ⟨⟨rfl, by kernel_rfl, by decide, fun _ => ⟨_, Try.underlying37⟩, fun h => (by cases h), exists_of_isSome (by kernel_rfl)⟩, ?_⟩
    trivial
theorem tyOk138 : TIOk Try.prog 138 ⟨.st [⟨0, 1, false⟩, ⟨1, 1, false⟩, ⟨2, 1, false⟩, ⟨3, 1, false⟩, ⟨4, 3, true⟩], 7, 128, [.d (.v (.string ⟨#[]⟩)), .d (.v (.string ⟨#[]⟩)), .nil, .nil, .d (.v (.int .i64 0)), .d (.v (.string ⟨#[]⟩)), .nil]⟩ := by
  refine tiok_of (z := (.agg #[.string ⟨#[]⟩, .string ⟨#[]⟩, .slice none 0 0, .slice none 0 0, .int .i64 0, .string ⟨#[]⟩, .slice none 0 0] : Value)) (by kernel_rfl) (by kernel_rfl) (by kernel_rfl) (by simp [ZsOk, ZOk, sc, Value.cells]) rfl (by decide) ?_ ?_ ?_
  · exact fun h => (by cases h)
  · exact fun _ => ⟨_, rfl⟩
  · refine ⟨_, Try.underlying138, ?_⟩
    refine ⟨⟨rfl, by kernel_rfl, by decide, fun h => (by cases h), fun _ => ⟨rfl, _, Try.underlying9, fun q h => (by cases h), fun n e h => (by cases h)⟩, exists_of_isSome (by kernel_rfl)⟩, ?_⟩
    refine ⟨⟨rfl, by kernel_rfl, by decide, fun h => (by cases h), fun _ => ⟨rfl, _, Try.underlying9, fun q h => (by cases h), fun n e h => (by cases h)⟩, exists_of_isSome (by kernel_rfl)⟩, ?_⟩
    refine ⟨⟨rfl, by kernel_rfl, by decide, fun h => (by cases h), fun _ => ⟨rfl, _, Try.underlying61, fun q h => (by cases h), fun n e h => (by cases h)⟩, exists_of_isSome (by kernel_rfl)⟩, ?_⟩
    refine ⟨⟨rfl, by kernel_rfl, by decide, fun h => (by cases h), fun _ => ⟨rfl, _, Try.underlying61, fun q h => (by cases h), fun n e h => (by cases h)⟩, exists_of_isSome (by kernel_rfl)⟩, ?_⟩
    refine ⟨⟨rfl, by kernel_rfl, by decide, fun _ => ⟨_, Try.underlying27⟩, fun h => (by cases h), exists_of_isSome (by kernel_rfl)⟩, ?_⟩
    trivial
theorem tyOk139 : TIOk Try.prog 139 ⟨.st [⟨0, 1, false⟩, ⟨1, 1, false⟩, ⟨2, 1, false⟩, ⟨3, 1, false⟩, ⟨4, 3, true⟩], 7, 128, [.d (.v (.string ⟨#[]⟩)), .d (.v (.string ⟨#[]⟩)), .nil, .nil, .d (.v (.int .i64 0)), .d (.v (.string ⟨#[]⟩)), .nil]⟩ := by
  refine tiok_of (z := (.agg #[.string ⟨#[]⟩, .string ⟨#[]⟩, .slice none 0 0, .slice none 0 0, .int .i64 0, .string ⟨#[]⟩, .slice none 0 0] : Value)) (by kernel_rfl) (by kernel_rfl) (by kernel_rfl) (by simp [ZsOk, ZOk, sc, Value.cells]) rfl (by decide) ?_ ?_ ?_
  · exact fun h => (by cases h)
  · exact fun _ => ⟨_, rfl⟩
  · refine ⟨_, Try.underlying139, ?_⟩
    refine ⟨⟨rfl, by kernel_rfl, by decide, fun h => (by cases h), fun _ => ⟨rfl, _, Try.underlying9, fun q h => (by cases h), fun n e h => (by cases h)⟩, exists_of_isSome (by kernel_rfl)⟩, ?_⟩
    refine ⟨⟨rfl, by kernel_rfl, by decide, fun h => (by cases h), fun _ => ⟨rfl, _, Try.underlying9, fun q h => (by cases h), fun n e h => (by cases h)⟩, exists_of_isSome (by kernel_rfl)⟩, ?_⟩
    refine ⟨⟨rfl, by kernel_rfl, by decide, fun h => (by cases h), fun _ => ⟨rfl, _, Try.underlying61, fun q h => (by cases h), fun n e h => (by cases h)⟩, exists_of_isSome (by kernel_rfl)⟩, ?_⟩
    refine ⟨⟨rfl, by kernel_rfl, by decide, fun h => (by cases h), fun _ => ⟨rfl, _, Try.underlying61, fun q h => (by cases h), fun n e h => (by cases h)⟩, exists_of_isSome (by kernel_rfl)⟩, ?_⟩
    refine ⟨⟨rfl, by kernel_rfl, by decide, fun _ => ⟨_, Try.underlying27⟩, fun h => (by cases h), exists_of_isSome (by kernel_rfl)⟩, ?_⟩
    trivial
theorem tyOk155 : TIOk Try.prog 155 ⟨.st [⟨0, 1, false⟩, ⟨1, 3, true⟩], 4, 64, [.d (.v (.string ⟨#[]⟩)), .d (.v (.int .i64 0)), .d (.v (.string ⟨#[]⟩)), .nil]⟩ := by
  refine tiok_of (z := (.agg #[.string ⟨#[]⟩, .int .i64 0, .string ⟨#[]⟩, .slice none 0 0] : Value)) (by kernel_rfl) (by kernel_rfl) (by kernel_rfl) (by simp [ZsOk, ZOk, sc, Value.cells]) rfl (by decide) ?_ ?_ ?_
  · exact fun h => (by cases h)
  · exact fun _ => ⟨_, rfl⟩
  · refine ⟨_, Try.underlying155, ?_⟩
    refine ⟨⟨rfl, by kernel_rfl, by decide, fun h => (by cases h), fun _ => ⟨rfl, _, Try.underlying9, fun q h => (by cases h), fun n e h => (by cases h)⟩, exists_of_isSome (by kernel_rfl)⟩, ?_⟩
    refine ⟨⟨rfl, by kernel_rfl, by decide, fun _ => ⟨_, Try.underlying27⟩, fun h => (by cases h), exists_of_isSome (by kernel_rfl)⟩, ?_⟩
    trivial
theorem tyOk156 : TIOk Try.prog 156 ⟨.st [⟨0, 1, false⟩, ⟨1, 3, true⟩], 4, 64, [.d (.v (.string ⟨#[]⟩)), .d (.v (.int .i64 0)), .d (.v (.string ⟨#[]⟩)), .nil]⟩ := by
  refine tiok_of (z := (.agg #[.string ⟨#[]⟩, .int .i64 0, .string ⟨#[]⟩, .slice none 0 0] : Value)) (by kernel_rfl) (by kernel_rfl) (by kernel_rfl) (by simp [ZsOk, ZOk, sc, Value.cells]) rfl (by decide) ?_ ?_ ?_
  · exact fun h => (by cases h)
  · exact fun _ => ⟨_, rfl⟩
  · refine ⟨_, Try.underlying156, ?_⟩
    refine ⟨⟨rfl, by kernel_rfl, by decide, fun h => (by cases h), fun _ => ⟨rfl, _, Try.underlying9, fun q h => (by cases h), fun n e h => (by cases h)⟩, exists_of_isSome (by kernel_rfl)⟩, ?_⟩
    refine ⟨⟨rfl, by kernel_rfl, by decide, fun _ => ⟨_, Try.underlying27⟩, fun h => (by cases h), exists_of_isSome (by kernel_rfl)⟩, ?_⟩
    trivial
theorem tyOk158 : TIOk Try.prog 158 ⟨.slc 61, 1, 24, [.nil]⟩ := by
  refine tiok_of (z := (.slice none 0 0 : Value)) (by kernel_rfl) (by kernel_rfl) (by kernel_rfl) (by simp [ZsOk, ZOk, sc, Value.cells]) rfl (by decide) ?_ ?_ ?_
  · exact fun _ => ⟨_, rfl, rfl⟩
  · exact fun h => (by cases h)
  · exact ⟨rfl, Try.underlying158⟩
theorem tyOk163 : TIOk Try.prog 163 ⟨.st [⟨0, 1, false⟩, ⟨1, 1, false⟩, ⟨2, 1, false⟩, ⟨3, 1, false⟩], 4, 40, [.d (.v (.pointer none)), .d (.v (.pointer none)), .d (.v (.pointer none)), .d (.v (.string ⟨#[]⟩))]⟩ := by
  refine tiok_of (z := (.agg #[.pointer none, .pointer none, .pointer none, .string ⟨#[]⟩] : Value)) (by kernel_rfl) (by kernel_rfl) (by kernel_rfl) (by simp [ZsOk, ZOk, sc, Value.cells]) rfl (by decide) ?_ ?_ ?_
  · exact fun h => (by cases h)
  · exact fun _ => ⟨_, rfl⟩
  · refine ⟨_, Try.underlying163, ?_⟩
    refine ⟨⟨rfl, by kernel_rfl, by decide, fun h => (by cases h), fun _ => ⟨rfl, _, Try.underlying17, fun q h => (by cases h), fun n e h => (by cases h)⟩, exists_of_isSome (by kernel_rfl)⟩, ?_⟩
    refine ⟨⟨rfl, by kernel_rfl, by decide, fun h => (by cases h), fun _ => ⟨rfl, _, Try.underlying17, fun q h => (by cases h), fun n e h => (by cases h)⟩, exists_of_isSome (by kernel_rfl)⟩, ?_⟩
    refine ⟨⟨rfl, by kernel_rfl, by decide, fun h => (by cases h), fun _ => ⟨rfl, _, Try.underlying17, fun q h => (by cases h), fun n e h => (by cases h)⟩, exists_of_isSome (by kernel_rfl)⟩, ?_⟩
    refine ⟨⟨rfl, by kernel_rfl, by decide, fun h => (by cases h), fun _ => ⟨rfl, _, Try.underlying9, fun q h => (by cases h), fun n e h => (by cases h)⟩, exists_of_isSome (by kernel_rfl)⟩, ?_⟩
    trivial
theorem tyOk164 : TIOk Try.prog 164 ⟨.st [⟨0, 1, false⟩, ⟨1, 1, false⟩, ⟨2, 1, false⟩, ⟨3, 1, false⟩], 4, 40, [.d (.v (.pointer none)), .d (.v (.pointer none)), .d (.v (.pointer none)), .d (.v (.string ⟨#[]⟩))]⟩ := by
  refine tiok_of (z := (.agg #[.pointer none, .pointer none, .pointer none, .string ⟨#[]⟩] : Value)) (by kernel_rfl) (by kernel_rfl) (by kernel_rfl) (by simp [ZsOk, ZOk, sc, Value.cells]) rfl (by decide) ?_ ?_ ?_
  · exact fun h => (by cases h)
  · exact fun _ => ⟨_, rfl⟩
  · refine ⟨_, Try.underlying164, ?_⟩
    refine ⟨⟨rfl, by kernel_rfl, by decide, fun h => (by cases h), fun _ => ⟨rfl, _, Try.underlying17, fun q h => (by cases h), fun n e h => (by cases h)⟩, exists_of_isSome (by kernel_rfl)⟩, ?_⟩
    refine ⟨⟨rfl, by kernel_rfl, by decide, fun h => (by cases h), fun _ => ⟨rfl, _, Try.underlying17, fun q h => (by cases h), fun n e h => (by cases h)⟩, exists_of_isSome (by kernel_rfl)⟩, ?_⟩
    refine ⟨⟨rfl, by kernel_rfl, by decide, fun h => (by cases h), fun _ => ⟨rfl, _, Try.underlying17, fun q h => (by cases h), fun n e h => (by cases h)⟩, exists_of_isSome (by kernel_rfl)⟩, ?_⟩
    refine ⟨⟨rfl, by kernel_rfl, by decide, fun h => (by cases h), fun _ => ⟨rfl, _, Try.underlying9, fun q h => (by cases h), fun n e h => (by cases h)⟩, exists_of_isSome (by kernel_rfl)⟩, ?_⟩
    trivial
theorem tyOk169 : TIOk Try.prog 169 ⟨.one, 1, 4, [.d (.v (.int .u32 0))]⟩ := by
  refine tiok_of (z := (.int .u32 0 : Value)) (by kernel_rfl) (by kernel_rfl) (by kernel_rfl) (by simp [ZsOk, ZOk, sc, Value.cells]) rfl (by decide) ?_ ?_ ?_
  · exact fun _ => ⟨_, rfl, rfl⟩
  · exact fun h => (by cases h)
  · exact ⟨rfl, _, Try.underlying169, fun q h => (by cases h), fun n e h => (by cases h)⟩
theorem tyOk170 : TIOk Try.prog 170 ⟨.one, 1, 1, [.d (.v (.int .u8 0))]⟩ := by
  refine tiok_of (z := (.int .u8 0 : Value)) (by kernel_rfl) (by kernel_rfl) (by kernel_rfl) (by simp [ZsOk, ZOk, sc, Value.cells]) rfl (by decide) ?_ ?_ ?_
  · exact fun _ => ⟨_, rfl, rfl⟩
  · exact fun h => (by cases h)
  · exact ⟨rfl, _, Try.underlying170, fun q h => (by cases h), fun n e h => (by cases h)⟩
theorem tyOk171 : TIOk Try.prog 171 ⟨.one, 1, 1, [.d (.v (.int .u8 0))]⟩ := by
  refine tiok_of (z := (.int .u8 0 : Value)) (by kernel_rfl) (by kernel_rfl) (by kernel_rfl) (by simp [ZsOk, ZOk, sc, Value.cells]) rfl (by decide) ?_ ?_ ?_
  · exact fun _ => ⟨_, rfl, rfl⟩
  · exact fun h => (by cases h)
  · exact ⟨rfl, _, Try.underlying171, fun q h => (by cases h), fun n e h => (by cases h)⟩
theorem tyOk174 : TIOk Try.prog 174 ⟨.one, 1, 4, [.d (.v (.int .i32 0))]⟩ := by
  refine tiok_of (z := (.int .i32 0 : Value)) (by kernel_rfl) (by kernel_rfl) (by kernel_rfl) (by simp [ZsOk, ZOk, sc, Value.cells]) rfl (by decide) ?_ ?_ ?_
  · exact fun _ => ⟨_, rfl, rfl⟩
  · exact fun h => (by cases h)
  · exact ⟨rfl, _, Try.underlying174, fun q h => (by cases h), fun n e h => (by cases h)⟩
theorem tyOk175 : TIOk Try.prog 175 ⟨.one, 1, 4, [.d (.v (.int .i32 0))]⟩ := by
  refine tiok_of (z := (.int .i32 0 : Value)) (by kernel_rfl) (by kernel_rfl) (by kernel_rfl) (by simp [ZsOk, ZOk, sc, Value.cells]) rfl (by decide) ?_ ?_ ?_
  · exact fun _ => ⟨_, rfl, rfl⟩
  · exact fun h => (by cases h)
  · exact ⟨rfl, _, Try.underlying175, fun q h => (by cases h), fun n e h => (by cases h)⟩
theorem tyOk176 : TIOk Try.prog 176 ⟨.st [⟨0, 1, false⟩, ⟨1, 1, false⟩, ⟨2, 1, false⟩, ⟨3, 1, false⟩, ⟨4, 1, false⟩, ⟨5, 1, false⟩, ⟨6, 1, false⟩, ⟨7, 1, false⟩, ⟨8, 1, false⟩, ⟨9, 1, false⟩, ⟨10, 1, false⟩], 11, 48, [.d (.v (.int .u64 0)), .d (.v (.int .u64 0)), .d (.v (.int .u32 0)), .d (.v (.int .u8 0)), .d (.v (.int .u8 0)), .d (.v (.int .u8 0)), .d (.v (.int .u8 0)), .d (.v .nilFunc), .d (.v (.pointer none)), .d (.v (.int .i32 0)), .d (.v (.int .i32 0))]⟩ := by
  refine tiok_of (z := (.agg #[.int .u64 0, .int .u64 0, .int .u32 0, .int .u8 0, .int .u8 0, .int .u8 0, .int .u8 0, .nilFunc, .pointer none, .int .i32 0, .int .i32 0] : Value)) (by kernel_rfl) (by kernel_rfl) (by kernel_rfl) (by simp [ZsOk, ZOk, sc, Value.cells]) rfl (by decide) ?_ ?_ ?_
  · exact fun h => (by cases h)
  · exact fun _ => ⟨_, rfl⟩
  · refine ⟨_, Try.underlying176, ?_⟩
    refine ⟨⟨rfl, by kernel_rfl, by decide, fun h => (by cases h), fun _ => ⟨rfl, _, Try.underlying12, fun q h => (by cases h), fun n e h => (by cases h)⟩, exists_of_isSome (by kernel_rfl)⟩, ?_⟩
    refine ⟨⟨rfl, by kernel_rfl, by decide, fun h => (by cases h), fun _ => ⟨rfl, _, Try.underlying12, fun q h => (by cases h), fun n e h => (by cases h)⟩, exists_of_isSome (by kernel_rfl)⟩, ?_⟩
    refine ⟨⟨rfl, by kernel_rfl, by decide, fun h => (by cases h), fun _ => ⟨rfl, _, Try.underlying169, fun q h => (by cases h), fun n e h => (by cases h)⟩, exists_of_isSome (by kernel_rfl)⟩, ?_⟩
    refine ⟨⟨rfl, by kernel_rfl, by decide, fun h => (by cases h), fun _ => ⟨rfl, _, Try.underlying170, fun q h => (by cases h), fun n e h => (by cases h)⟩, exists_of_isSome (by kernel_rfl)⟩, ?_⟩
    refine ⟨⟨rfl, by kernel_rfl, by decide, fun h => (by cases h), fun _ => ⟨rfl, _, Try.underlying5, fun q h => (by cases h), fun n e h => (by cases h)⟩, exists_of_isSome (by kernel_rfl)⟩, ?_⟩
    refine ⟨⟨rfl, by kernel_rfl, by decide, fun h => (by cases h), fun _ => ⟨rfl, _, Try.underlying5, fun q h => (by cases h), fun n e h => (by cases h)⟩, exists_of_isSome (by kernel_rfl)⟩, ?_⟩
    refine ⟨⟨rfl, by kernel_rfl, by decide, fun h => (by cases h), fun _ => ⟨rfl, _, Try.underlying171, fun q h => (by cases h), fun n e h => (by cases h)⟩, exists_of_isSome (by kernel_rfl)⟩, ?_⟩
    refine ⟨⟨rfl, by kernel_rfl, by decide, fun h => (by cases h), fun _ => ⟨rfl, _, Try.underlying172, fun q h => (by cases h), fun n e h => (by cases h)⟩, exists_of_isSome (by kernel_rfl)⟩, ?_⟩
    refine ⟨⟨rfl, by kernel_rfl, by decide, fun h => (by cases h), fun _ => ⟨rfl, _, Try.underlying173, fun q h => (by cases h), fun n e h => (by cases h)⟩, exists_of_isSome (by kernel_rfl)⟩, ?_⟩
    refine ⟨⟨rfl, by kernel_rfl, by decide, fun h => (by cases h), fun _ => ⟨rfl, _, Try.underlying174, fun q h => (by cases h), fun n e h => (by cases h)⟩, exists_of_isSome (by kernel_rfl)⟩, ?_⟩
    refine ⟨⟨rfl, by kernel_rfl, by decide, fun h => (by cases h), fun _ => ⟨rfl, _, Try.underlying175, fun q h => (by cases h), fun n e h => (by cases h)⟩, exists_of_isSome (by kernel_rfl)⟩, ?_⟩
    trivial
theorem tyOk177 : TIOk Try.prog 177 ⟨.st [⟨0, 1, false⟩, ⟨1, 1, false⟩, ⟨2, 1, false⟩, ⟨3, 1, false⟩, ⟨4, 1, false⟩, ⟨5, 1, false⟩, ⟨6, 1, false⟩, ⟨7, 1, false⟩, ⟨8, 1, false⟩, ⟨9, 1, false⟩, ⟨10, 1, false⟩], 11, 48, [.d (.v (.int .u64 0)), .d (.v (.int .u64 0)), .d (.v (.int .u32 0)), .d (.v (.int .u8 0)), .d (.v (.int .u8 0)), .d (.v (.int .u8 0)), .d (.v (.int .u8 0)), .d (.v .nilFunc), .d (.v (.pointer none)), .d (.v (.int .i32 0)), .d (.v (.int .i32 0))]⟩ := by
  refine tiok_of (z := (.agg #[.int .u64 0, .int .u64 0, .int .u32 0, .int .u8 0, .int .u8 0, .int .u8 0, .int .u8 0, .nilFunc, .pointer none, .int .i32 0, .int .i32 0] : Value)) (by kernel_rfl) (by kernel_rfl) (by kernel_rfl) (by simp [ZsOk, ZOk, sc, Value.cells]) rfl (by decide) ?_ ?_ ?_
  · exact fun h => (by cases h)
  · exact fun _ => ⟨_, rfl⟩
  · refine ⟨_, Try.underlying177, ?_⟩
    refine ⟨⟨rfl, by kernel_rfl, by decide, fun h => (by cases h), fun _ => ⟨rfl, _, Try.underlying12, fun q h => (by cases h), fun n e h => (by cases h)⟩, exists_of_isSome (by kernel_rfl)⟩, ?_⟩
    refine ⟨⟨rfl, by kernel_rfl, by decide, fun h => (by cases h), fun _ => ⟨rfl, _, Try.underlying12, fun q h => (by cases h), fun n e h => (by cases h)⟩, exists_of_isSome (by kernel_rfl)⟩, ?_⟩
    refine ⟨⟨rfl, by kernel_rfl, by decide, fun h => (by cases h), fun _ => ⟨rfl, _, Try.underlying169, fun q h => (by cases h), fun n e h => (by cases h)⟩, exists_of_isSome (by kernel_rfl)⟩, ?_⟩
    refine ⟨⟨rfl, by kernel_rfl, by decide, fun h => (by cases h), fun _ => ⟨rfl, _, Try.underlying170, fun q h => (by cases h), fun n e h => (by cases h)⟩, exists_of_isSome (by kernel_rfl)⟩, ?_⟩
    refine ⟨⟨rfl, by kernel_rfl, by decide, fun h => (by cases h), fun _ => ⟨rfl, _, Try.underlying5, fun q h => (by cases h), fun n e h => (by cases h)⟩, exists_of_isSome (by kernel_rfl)⟩, ?_⟩
    refine ⟨⟨rfl, by kernel_rfl, by decide, fun h => (by cases h), fun _ => ⟨rfl, _, Try.underlying5, fun q h => (by cases h), fun n e h => (by cases h)⟩, exists_of_isSome (by kernel_rfl)⟩, ?_⟩
    refine ⟨⟨rfl, by kernel_rfl, by decide, fun h => (by cases h), fun _ => ⟨rfl, _, Try.underlying171, fun q h => (by cases h), fun n e h => (by cases h)⟩, exists_of_isSome (by kernel_rfl)⟩, ?_⟩
    refine ⟨⟨rfl, by kernel_rfl, by decide, fun h => (by cases h), fun _ => ⟨rfl, _, Try.underlying172, fun q h => (by cases h), fun n e h => (by cases h)⟩, exists_of_isSome (by kernel_rfl)⟩, ?_⟩
    refine ⟨⟨rfl, by kernel_rfl, by decide, fun h => (by cases h), fun _ => ⟨rfl, _, Try.underlying173, fun q h => (by cases h), fun n e h => (by cases h)⟩, exists_of_isSome (by kernel_rfl)⟩, ?_⟩
    refine ⟨⟨rfl, by kernel_rfl, by decide, fun h => (by cases h), fun _ => ⟨rfl, _, Try.underlying174, fun q h => (by cases h), fun n e h => (by cases h)⟩, exists_of_isSome (by kernel_rfl)⟩, ?_⟩
    refine ⟨⟨rfl, by kernel_rfl, by decide, fun h => (by cases h), fun _ => ⟨rfl, _, Try.underlying175, fun q h => (by cases h), fun n e h => (by cases h)⟩, exists_of_isSome (by kernel_rfl)⟩, ?_⟩
    trivial
theorem tyOk : TOk Try.prog ty := by
  intro t i h
  unfold ty at h
  split at h
  · cases h; exact tyOk2
  · cases h; exact tyOk3
  · cases h; exact tyOk4
  · cases h; exact tyOk5
  · cases h; exact tyOk6
  · cases h; exact tyOk7
  · cases h; exact tyOk8
  · cases h; exact tyOk9
  · cases h; exact tyOk10
  · cases h; exact tyOk11
  · cases h; exact tyOk12
  · cases h; exact tyOk13
  · cases h; exact tyOk14
  · cases h; exact tyOk18
  · cases h; exact tyOk19
  · cases h; exact tyOk21
  · cases h; exact tyOk22
  · cases h; exact tyOk23
  · cases h; exact tyOk24
  · cases h; exact tyOk25
  · cases h; exact tyOk26
  · cases h; exact tyOk27
  · cases h; exact tyOk28
  · cases h; exact tyOk29
  · cases h; exact tyOk32
  · cases h; exact tyOk33
  · cases h; exact tyOk34
  · cases h; exact tyOk35
  · cases h; exact tyOk36
  · cases h; exact tyOk37
  · cases h; exact tyOk38
  · cases h; exact tyOk39
  · cases h; exact tyOk42
  · cases h; exact tyOk43
  · cases h; exact tyOk44
  · cases h; exact tyOk47
  · cases h; exact tyOk48
  · cases h; exact tyOk49
  · cases h; exact tyOk61
  · cases h; exact tyOk62
  · cases h; exact tyOk63
  · cases h; exact tyOk64
  · cases h; exact tyOk65
  · cases h; exact tyOk66
  · cases h; exact tyOk71
  · cases h; exact tyOk74
  · cases h; exact tyOk82
  · cases h; exact tyOk83
  · cases h; exact tyOk84
  · cases h; exact tyOk108
  · cases h; exact tyOk109
  · cases h; exact tyOk117
  · cases h; exact tyOk124
  · cases h; exact tyOk125
  · cases h; exact tyOk130
  · cases h; exact tyOk131
  · cases h; exact tyOk132
  · cases h; exact tyOk134
  · cases h; exact tyOk135
  · cases h; exact tyOk138
  · cases h; exact tyOk139
  · cases h; exact tyOk155
  · cases h; exact tyOk156
  · cases h; exact tyOk158
  · cases h; exact tyOk163
  · cases h; exact tyOk164
  · cases h; exact tyOk169
  · cases h; exact tyOk170
  · cases h; exact tyOk171
  · cases h; exact tyOk174
  · cases h; exact tyOk175
  · cases h; exact tyOk176
  · cases h; exact tyOk177
  · cases h
end Go.Proofs.Ytdeabmjffccplaa
