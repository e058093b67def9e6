/- The types of this seat, as the generator asks for them. Printed by types.py. -/
import Derived.Test.YtfmllefmfhefpaaProg
import Derived.Test.YtfmllefmfhefpaaAbS
import Derived.KernelRfl
namespace Go.Proofs.Ytfmllefmfhefpaa
open Go Go.Ab
set_option linter.unusedVariables false
set_option linter.unusedSimpArgs false
theorem exists_of_isSome {α : Type} {o : Option α} (h : o.isSome = true) : ∃ z, o = some z := Option.isSome_iff_exists.1 h
theorem tiok_of {P : Program} {t : Nat} {i : TI} {z : Value} (hs : (P.info? t).map (·.size) = some i.sz) (hb : (P.info? t).map (·.bytes) = some i.bytes)
    (hz : (P.info? t).bind (·.zero) = some z) (h1 : ZsOk z.cells.toList i.zero) (h2 : z.cells.size = i.sz) (h3 : i.sz ≠ 0)
    (h4 : i.ag = false → ∃ x, z.cells = #[x] ∧ x = z) (h5 : i.ag = true → ∃ cs, z = .agg cs) (h6 : KOk P t i.sz i.k) : TIOk P t i := by
  cases e : P.info? t with
  | none => rw [e] at hs; cases hs
  | some f =>
    rw [e] at hs hb hz
    simp only [Option.map_some, Option.some.injEq, Option.bind_some] at hs hb hz
    exact ⟨f, z, e, hs, hb, hz, h1, h2, h3, h4, h5, h6⟩
def ty : Ty
  | 2 => some ⟨.one, 1, 8, [.d (.v (.int .i64 0))]⟩
  | 3 => some ⟨.one, 1, 8, [.d (.v (.int .i64 0))]⟩
  | 4 => some ⟨.boo, 1, 1, [.d (.v (.bool false))]⟩
  | 5 => some ⟨.one, 1, 1, [.d (.v (.int .u8 0))]⟩
  | 6 => some ⟨.one, 1, 1, [.d (.v (.int .u8 0))]⟩
  | 7 => some ⟨.st [⟨0, 1, false⟩, ⟨1, 1, false⟩, ⟨2, 1, false⟩, ⟨3, 1, false⟩], 4, 24, [.d (.v (.int .i64 0)), .d (.v (.int .i64 0)), .d (.v (.bool false)), .d (.v (.int .u8 0))]⟩
  | 8 => some ⟨.st [⟨0, 1, false⟩, ⟨1, 1, false⟩, ⟨2, 1, false⟩, ⟨3, 1, false⟩], 4, 24, [.d (.v (.int .i64 0)), .d (.v (.int .i64 0)), .d (.v (.bool false)), .d (.v (.int .u8 0))]⟩
  | 9 => some ⟨.str, 1, 16, [.d (.v (.string ⟨#[]⟩))]⟩
  | 10 => some ⟨.str, 1, 16, [.d (.v (.string ⟨#[]⟩))]⟩
  | 11 => some ⟨.str, 1, 16, [.d (.v (.string ⟨#[]⟩))]⟩
  | 12 => some ⟨.one, 1, 8, [.d (.v (.int .u64 0))]⟩
  | 13 => some ⟨.st [⟨0, 1, false⟩, ⟨1, 1, false⟩], 2, 24, [.d (.v (.string ⟨#[]⟩)), .d (.v (.int .u64 0))]⟩
  | 14 => some ⟨.st [⟨0, 1, false⟩, ⟨1, 1, false⟩], 2, 24, [.d (.v (.string ⟨#[]⟩)), .d (.v (.int .u64 0))]⟩
  | 18 => some ⟨.st [⟨0, 1, false⟩], 1, 8, [.d (.v (.pointer none))]⟩
  | 19 => some ⟨.st [⟨0, 1, false⟩], 1, 8, [.d (.v (.pointer none))]⟩
  | 21 => some ⟨.one, 1, 4, [.d (.v (.int .i32 0))]⟩
  | 22 => some ⟨.slc 136, 1, 24, [.nil]⟩
  | 23 => some ⟨.st [⟨0, 1, false⟩], 1, 24, [.nil]⟩
  | 24 => some ⟨.st [⟨0, 1, false⟩], 1, 24, [.nil]⟩
  | 27 => some ⟨.slc 91, 1, 24, [.nil]⟩
  | 28 => some ⟨.st [⟨0, 1, false⟩], 1, 24, [.nil]⟩
  | 29 => some ⟨.st [⟨0, 1, false⟩], 1, 24, [.nil]⟩
  | 33 => some ⟨.slc 35, 1, 24, [.nil]⟩
  | 34 => some ⟨.st [⟨0, 1, false⟩, ⟨1, 1, false⟩, ⟨2, 1, false⟩], 3, 48, [.d (.v (.int .i64 0)), .d (.v (.string ⟨#[]⟩)), .nil]⟩
  | 35 => some ⟨.st [⟨0, 1, false⟩, ⟨1, 1, false⟩, ⟨2, 1, false⟩], 3, 48, [.d (.v (.int .i64 0)), .d (.v (.string ⟨#[]⟩)), .nil]⟩
  | 36 => some ⟨.st [⟨0, 1, true⟩, ⟨1, 3, true⟩], 4, 72, [.nil, .d (.v (.int .i64 0)), .d (.v (.string ⟨#[]⟩)), .nil]⟩
  | 37 => some ⟨.st [⟨0, 1, true⟩, ⟨1, 3, true⟩], 4, 72, [.nil, .d (.v (.int .i64 0)), .d (.v (.string ⟨#[]⟩)), .nil]⟩
  | 40 => some ⟨.slc 42, 1, 24, [.nil]⟩
  | 41 => some ⟨.st [⟨0, 1, false⟩, ⟨1, 1, false⟩, ⟨2, 1, false⟩], 3, 48, [.d (.v (.int .i64 0)), .d (.v (.string ⟨#[]⟩)), .nil]⟩
  | 42 => some ⟨.st [⟨0, 1, false⟩, ⟨1, 1, false⟩, ⟨2, 1, false⟩], 3, 48, [.d (.v (.int .i64 0)), .d (.v (.string ⟨#[]⟩)), .nil]⟩
  | 43 => some ⟨.st [⟨0, 1, true⟩, ⟨1, 3, true⟩], 4, 72, [.nil, .d (.v (.int .i64 0)), .d (.v (.string ⟨#[]⟩)), .nil]⟩
  | 44 => some ⟨.st [⟨0, 1, true⟩, ⟨1, 3, true⟩], 4, 72, [.nil, .d (.v (.int .i64 0)), .d (.v (.string ⟨#[]⟩)), .nil]⟩
  | 48 => some ⟨.slc 94, 1, 24, [.nil]⟩
  | 53 => some ⟨.slc 9, 1, 24, [.nil]⟩
  | 54 => some ⟨.slc 3, 1, 24, [.nil]⟩
  | 55 => some ⟨.slc 54, 1, 24, [.nil]⟩
  | 56 => some ⟨.st [⟨0, 1, false⟩, ⟨1, 1, false⟩, ⟨2, 1, false⟩, ⟨3, 1, false⟩, ⟨4, 1, false⟩, ⟨5, 1, false⟩, ⟨6, 1, false⟩], 7, 152, [.nil, .nil, .nil, .nil, .nil, .nil, .d (.v (.int .i64 0))]⟩
  | 57 => some ⟨.st [⟨0, 1, false⟩, ⟨1, 1, false⟩, ⟨2, 1, false⟩, ⟨3, 1, false⟩, ⟨4, 1, false⟩, ⟨5, 1, false⟩, ⟨6, 1, false⟩], 7, 152, [.nil, .nil, .nil, .nil, .nil, .nil, .d (.v (.int .i64 0))]⟩
  | 60 => some ⟨.slc 112, 1, 24, [.nil]⟩
  | 63 => some ⟨.st [⟨0, 1, false⟩, ⟨1, 1, false⟩, ⟨2, 1, false⟩, ⟨3, 1, false⟩, ⟨4, 1, false⟩, ⟨5, 1, false⟩, ⟨6, 1, false⟩], 7, 152, [.nil, .nil, .nil, .nil, .nil, .nil, .d (.v (.int .i64 0))]⟩
  | 73 => some ⟨.slc 163, 1, 24, [.nil]⟩
  | 74 => some ⟨.st [⟨0, 1, false⟩], 1, 24, [.nil]⟩
  | 75 => some ⟨.st [⟨0, 1, false⟩], 1, 24, [.nil]⟩
  | 77 => some ⟨.slc 126, 1, 24, [.nil]⟩
  | 78 => some ⟨.st [⟨0, 1, false⟩], 1, 24, [.nil]⟩
  | 79 => some ⟨.st [⟨0, 1, false⟩], 1, 24, [.nil]⟩
  | 90 => some ⟨.st [⟨0, 1, false⟩, ⟨1, 1, false⟩, ⟨2, 1, false⟩, ⟨3, 1, false⟩, ⟨4, 3, true⟩], 7, 128, [.d (.v (.string ⟨#[]⟩)), .d (.v (.string ⟨#[]⟩)), .nil, .nil, .d (.v (.int .i64 0)), .d (.v (.string ⟨#[]⟩)), .nil]⟩
  | 91 => some ⟨.st [⟨0, 1, false⟩, ⟨1, 1, false⟩, ⟨2, 1, false⟩, ⟨3, 1, false⟩, ⟨4, 3, true⟩], 7, 128, [.d (.v (.string ⟨#[]⟩)), .d (.v (.string ⟨#[]⟩)), .nil, .nil, .d (.v (.int .i64 0)), .d (.v (.string ⟨#[]⟩)), .nil]⟩
  | 93 => some ⟨.st [⟨0, 1, false⟩, ⟨1, 1, false⟩], 2, 24, [.d (.v (.string ⟨#[]⟩)), .d (.v (.int .i64 0))]⟩
  | 94 => some ⟨.st [⟨0, 1, false⟩, ⟨1, 1, false⟩], 2, 24, [.d (.v (.string ⟨#[]⟩)), .d (.v (.int .i64 0))]⟩
  | 111 => some ⟨.st [⟨0, 1, false⟩, ⟨1, 1, false⟩], 2, 24, [.d (.v (.string ⟨#[]⟩)), .d (.v (.int .i64 0))]⟩
  | 112 => some ⟨.st [⟨0, 1, false⟩, ⟨1, 1, false⟩], 2, 24, [.d (.v (.string ⟨#[]⟩)), .d (.v (.int .i64 0))]⟩
  | 124 => some ⟨.slc 189, 1, 24, [.nil]⟩
  | 125 => some ⟨.st [⟨0, 1, false⟩, ⟨1, 3, true⟩, ⟨4, 1, false⟩, ⟨5, 1, false⟩, ⟨6, 1, false⟩, ⟨7, 1, false⟩, ⟨8, 1, false⟩, ⟨9, 1, false⟩, ⟨10, 1, false⟩], 11, 176, [.d (.v (.int .i64 0)), .d (.v (.int .i64 0)), .d (.v (.string ⟨#[]⟩)), .nil, .d (.v (.int .i64 0)), .nil, .d (.v (.string ⟨#[]⟩)), .d (.v (.string ⟨#[]⟩)), .nil, .nil, .d (.v (.int .i64 0))]⟩
  | 126 => some ⟨.st [⟨0, 1, false⟩, ⟨1, 3, true⟩, ⟨4, 1, false⟩, ⟨5, 1, false⟩, ⟨6, 1, false⟩, ⟨7, 1, false⟩, ⟨8, 1, false⟩, ⟨9, 1, false⟩, ⟨10, 1, false⟩], 11, 176, [.d (.v (.int .i64 0)), .d (.v (.int .i64 0)), .d (.v (.string ⟨#[]⟩)), .nil, .d (.v (.int .i64 0)), .nil, .d (.v (.string ⟨#[]⟩)), .d (.v (.string ⟨#[]⟩)), .nil, .nil, .d (.v (.int .i64 0))]⟩
  | 135 => some ⟨.st [⟨0, 1, false⟩, ⟨1, 1, false⟩, ⟨2, 1, false⟩, ⟨3, 1, false⟩, ⟨4, 3, true⟩], 7, 128, [.d (.v (.string ⟨#[]⟩)), .d (.v (.string ⟨#[]⟩)), .nil, .nil, .d (.v (.int .i64 0)), .d (.v (.string ⟨#[]⟩)), .nil]⟩
  | 136 => some ⟨.st [⟨0, 1, false⟩, ⟨1, 1, false⟩, ⟨2, 1, false⟩, ⟨3, 1, false⟩, ⟨4, 3, true⟩], 7, 128, [.d (.v (.string ⟨#[]⟩)), .d (.v (.string ⟨#[]⟩)), .nil, .nil, .d (.v (.int .i64 0)), .d (.v (.string ⟨#[]⟩)), .nil]⟩
  | 141 => some ⟨.mp 9 3, 1, 8, [.d (.v (.map none))]⟩
  | 153 => some ⟨.slc 5, 1, 24, [.nil]⟩
  | 161 => some ⟨.slc 199, 1, 24, [.nil]⟩
  | 162 => some ⟨.st [⟨0, 1, false⟩, ⟨1, 3, true⟩, ⟨4, 1, false⟩, ⟨5, 1, false⟩, ⟨6, 1, false⟩, ⟨7, 1, false⟩, ⟨8, 1, false⟩, ⟨9, 1, false⟩, ⟨10, 1, false⟩], 11, 176, [.d (.v (.int .i64 0)), .d (.v (.int .i64 0)), .d (.v (.string ⟨#[]⟩)), .nil, .d (.v (.int .i64 0)), .nil, .d (.v (.string ⟨#[]⟩)), .d (.v (.string ⟨#[]⟩)), .nil, .nil, .d (.v (.int .i64 0))]⟩
  | 163 => some ⟨.st [⟨0, 1, false⟩, ⟨1, 3, true⟩, ⟨4, 1, false⟩, ⟨5, 1, false⟩, ⟨6, 1, false⟩, ⟨7, 1, false⟩, ⟨8, 1, false⟩, ⟨9, 1, false⟩, ⟨10, 1, false⟩], 11, 176, [.d (.v (.int .i64 0)), .d (.v (.int .i64 0)), .d (.v (.string ⟨#[]⟩)), .nil, .d (.v (.int .i64 0)), .nil, .d (.v (.string ⟨#[]⟩)), .d (.v (.string ⟨#[]⟩)), .nil, .nil, .d (.v (.int .i64 0))]⟩
  | 182 => some ⟨.slc 53, 1, 24, [.nil]⟩
  | 188 => some ⟨.st [⟨0, 1, false⟩, ⟨1, 3, true⟩], 4, 64, [.d (.v (.string ⟨#[]⟩)), .d (.v (.int .i64 0)), .d (.v (.string ⟨#[]⟩)), .nil]⟩
  | 189 => some ⟨.st [⟨0, 1, false⟩, ⟨1, 3, true⟩], 4, 64, [.d (.v (.string ⟨#[]⟩)), .d (.v (.int .i64 0)), .d (.v (.string ⟨#[]⟩)), .nil]⟩
  | 198 => some ⟨.st [⟨0, 1, false⟩, ⟨1, 3, true⟩], 4, 64, [.d (.v (.string ⟨#[]⟩)), .d (.v (.int .i64 0)), .d (.v (.string ⟨#[]⟩)), .nil]⟩
  | 199 => some ⟨.st [⟨0, 1, false⟩, ⟨1, 3, true⟩], 4, 64, [.d (.v (.string ⟨#[]⟩)), .d (.v (.int .i64 0)), .d (.v (.string ⟨#[]⟩)), .nil]⟩
  | 205 => some ⟨.st [⟨0, 1, false⟩, ⟨1, 1, false⟩, ⟨2, 1, false⟩, ⟨3, 1, false⟩], 4, 40, [.d (.v (.pointer none)), .d (.v (.pointer none)), .d (.v (.pointer none)), .d (.v (.string ⟨#[]⟩))]⟩
  | 206 => some ⟨.st [⟨0, 1, false⟩, ⟨1, 1, false⟩, ⟨2, 1, false⟩, ⟨3, 1, false⟩], 4, 40, [.d (.v (.pointer none)), .d (.v (.pointer none)), .d (.v (.pointer none)), .d (.v (.string ⟨#[]⟩))]⟩
  | 211 => some ⟨.one, 1, 4, [.d (.v (.int .u32 0))]⟩
  | 212 => some ⟨.one, 1, 1, [.d (.v (.int .u8 0))]⟩
  | 213 => some ⟨.one, 1, 1, [.d (.v (.int .u8 0))]⟩
  | 216 => some ⟨.one, 1, 4, [.d (.v (.int .i32 0))]⟩
  | 217 => some ⟨.one, 1, 4, [.d (.v (.int .i32 0))]⟩
  | 218 => some ⟨.st [⟨0, 1, false⟩, ⟨1, 1, false⟩, ⟨2, 1, false⟩, ⟨3, 1, false⟩, ⟨4, 1, false⟩, ⟨5, 1, false⟩, ⟨6, 1, false⟩, ⟨7, 1, false⟩, ⟨8, 1, false⟩, ⟨9, 1, false⟩, ⟨10, 1, false⟩], 11, 48, [.d (.v (.int .u64 0)), .d (.v (.int .u64 0)), .d (.v (.int .u32 0)), .d (.v (.int .u8 0)), .d (.v (.int .u8 0)), .d (.v (.int .u8 0)), .d (.v (.int .u8 0)), .d (.v .nilFunc), .d (.v (.pointer none)), .d (.v (.int .i32 0)), .d (.v (.int .i32 0))]⟩
  | 219 => some ⟨.st [⟨0, 1, false⟩, ⟨1, 1, false⟩, ⟨2, 1, false⟩, ⟨3, 1, false⟩, ⟨4, 1, false⟩, ⟨5, 1, false⟩, ⟨6, 1, false⟩, ⟨7, 1, false⟩, ⟨8, 1, false⟩, ⟨9, 1, false⟩, ⟨10, 1, false⟩], 11, 48, [.d (.v (.int .u64 0)), .d (.v (.int .u64 0)), .d (.v (.int .u32 0)), .d (.v (.int .u8 0)), .d (.v (.int .u8 0)), .d (.v (.int .u8 0)), .d (.v (.int .u8 0)), .d (.v .nilFunc), .d (.v (.pointer none)), .d (.v (.int .i32 0)), .d (.v (.int .i32 0))]⟩
  | _ => none
@[go_sem] theorem ty2 : ty 2 = some ⟨.one, 1, 8, [.d (.v (.int .i64 0))]⟩ := rfl
@[go_sem] theorem ty3 : ty 3 = some ⟨.one, 1, 8, [.d (.v (.int .i64 0))]⟩ := rfl
@[go_sem] theorem ty4 : ty 4 = some ⟨.boo, 1, 1, [.d (.v (.bool false))]⟩ := rfl
@[go_sem] theorem ty5 : ty 5 = some ⟨.one, 1, 1, [.d (.v (.int .u8 0))]⟩ := rfl
@[go_sem] theorem ty6 : ty 6 = some ⟨.one, 1, 1, [.d (.v (.int .u8 0))]⟩ := rfl
@[go_sem] theorem ty7 : ty 7 = some ⟨.st [⟨0, 1, false⟩, ⟨1, 1, false⟩, ⟨2, 1, false⟩, ⟨3, 1, false⟩], 4, 24, [.d (.v (.int .i64 0)), .d (.v (.int .i64 0)), .d (.v (.bool false)), .d (.v (.int .u8 0))]⟩ := rfl
@[go_sem] theorem ty8 : ty 8 = some ⟨.st [⟨0, 1, false⟩, ⟨1, 1, false⟩, ⟨2, 1, false⟩, ⟨3, 1, false⟩], 4, 24, [.d (.v (.int .i64 0)), .d (.v (.int .i64 0)), .d (.v (.bool false)), .d (.v (.int .u8 0))]⟩ := rfl
@[go_sem] theorem ty9 : ty 9 = some ⟨.str, 1, 16, [.d (.v (.string ⟨#[]⟩))]⟩ := rfl
@[go_sem] theorem ty10 : ty 10 = some ⟨.str, 1, 16, [.d (.v (.string ⟨#[]⟩))]⟩ := rfl
@[go_sem] theorem ty11 : ty 11 = some ⟨.str, 1, 16, [.d (.v (.string ⟨#[]⟩))]⟩ := rfl
@[go_sem] theorem ty12 : ty 12 = some ⟨.one, 1, 8, [.d (.v (.int .u64 0))]⟩ := rfl
@[go_sem] theorem ty13 : ty 13 = some ⟨.st [⟨0, 1, false⟩, ⟨1, 1, false⟩], 2, 24, [.d (.v (.string ⟨#[]⟩)), .d (.v (.int .u64 0))]⟩ := rfl
@[go_sem] theorem ty14 : ty 14 = some ⟨.st [⟨0, 1, false⟩, ⟨1, 1, false⟩], 2, 24, [.d (.v (.string ⟨#[]⟩)), .d (.v (.int .u64 0))]⟩ := rfl
@[go_sem] theorem ty18 : ty 18 = some ⟨.st [⟨0, 1, false⟩], 1, 8, [.d (.v (.pointer none))]⟩ := rfl
@[go_sem] theorem ty19 : ty 19 = some ⟨.st [⟨0, 1, false⟩], 1, 8, [.d (.v (.pointer none))]⟩ := rfl
@[go_sem] theorem ty21 : ty 21 = some ⟨.one, 1, 4, [.d (.v (.int .i32 0))]⟩ := rfl
@[go_sem] theorem ty22 : ty 22 = some ⟨.slc 136, 1, 24, [.nil]⟩ := rfl
@[go_sem] theorem ty23 : ty 23 = some ⟨.st [⟨0, 1, false⟩], 1, 24, [.nil]⟩ := rfl
@[go_sem] theorem ty24 : ty 24 = some ⟨.st [⟨0, 1, false⟩], 1, 24, [.nil]⟩ := rfl
@[go_sem] theorem ty27 : ty 27 = some ⟨.slc 91, 1, 24, [.nil]⟩ := rfl
@[go_sem] theorem ty28 : ty 28 = some ⟨.st [⟨0, 1, false⟩], 1, 24, [.nil]⟩ := rfl
@[go_sem] theorem ty29 : ty 29 = some ⟨.st [⟨0, 1, false⟩], 1, 24, [.nil]⟩ := rfl
@[go_sem] theorem ty33 : ty 33 = some ⟨.slc 35, 1, 24, [.nil]⟩ := rfl
@[go_sem] theorem ty34 : ty 34 = some ⟨.st [⟨0, 1, false⟩, ⟨1, 1, false⟩, ⟨2, 1, false⟩], 3, 48, [.d (.v (.int .i64 0)), .d (.v (.string ⟨#[]⟩)), .nil]⟩ := rfl
@[go_sem] theorem ty35 : ty 35 = some ⟨.st [⟨0, 1, false⟩, ⟨1, 1, false⟩, ⟨2, 1, false⟩], 3, 48, [.d (.v (.int .i64 0)), .d (.v (.string ⟨#[]⟩)), .nil]⟩ := rfl
@[go_sem] theorem ty36 : ty 36 = some ⟨.st [⟨0, 1, true⟩, ⟨1, 3, true⟩], 4, 72, [.nil, .d (.v (.int .i64 0)), .d (.v (.string ⟨#[]⟩)), .nil]⟩ := rfl
@[go_sem] theorem ty37 : ty 37 = some ⟨.st [⟨0, 1, true⟩, ⟨1, 3, true⟩], 4, 72, [.nil, .d (.v (.int .i64 0)), .d (.v (.string ⟨#[]⟩)), .nil]⟩ := rfl
@[go_sem] theorem ty40 : ty 40 = some ⟨.slc 42, 1, 24, [.nil]⟩ := rfl
@[go_sem] theorem ty41 : ty 41 = some ⟨.st [⟨0, 1, false⟩, ⟨1, 1, false⟩, ⟨2, 1, false⟩], 3, 48, [.d (.v (.int .i64 0)), .d (.v (.string ⟨#[]⟩)), .nil]⟩ := rfl
@[go_sem] theorem ty42 : ty 42 = some ⟨.st [⟨0, 1, false⟩, ⟨1, 1, false⟩, ⟨2, 1, false⟩], 3, 48, [.d (.v (.int .i64 0)), .d (.v (.string ⟨#[]⟩)), .nil]⟩ := rfl
@[go_sem] theorem ty43 : ty 43 = some ⟨.st [⟨0, 1, true⟩, ⟨1, 3, true⟩], 4, 72, [.nil, .d (.v (.int .i64 0)), .d (.v (.string ⟨#[]⟩)), .nil]⟩ := rfl
@[go_sem] theorem ty44 : ty 44 = some ⟨.st [⟨0, 1, true⟩, ⟨1, 3, true⟩], 4, 72, [.nil, .d (.v (.int .i64 0)), .d (.v (.string ⟨#[]⟩)), .nil]⟩ := rfl
@[go_sem] theorem ty48 : ty 48 = some ⟨.slc 94, 1, 24, [.nil]⟩ := rfl
@[go_sem] theorem ty53 : ty 53 = some ⟨.slc 9, 1, 24, [.nil]⟩ := rfl
@[go_sem] theorem ty54 : ty 54 = some ⟨.slc 3, 1, 24, [.nil]⟩ := rfl
@[go_sem] theorem ty55 : ty 55 = some ⟨.slc 54, 1, 24, [.nil]⟩ := rfl
@[go_sem] theorem ty56 : ty 56 = some ⟨.st [⟨0, 1, false⟩, ⟨1, 1, false⟩, ⟨2, 1, false⟩, ⟨3, 1, false⟩, ⟨4, 1, false⟩, ⟨5, 1, false⟩, ⟨6, 1, false⟩], 7, 152, [.nil, .nil, .nil, .nil, .nil, .nil, .d (.v (.int .i64 0))]⟩ := rfl
@[go_sem] theorem ty57 : ty 57 = some ⟨.st [⟨0, 1, false⟩, ⟨1, 1, false⟩, ⟨2, 1, false⟩, ⟨3, 1, false⟩, ⟨4, 1, false⟩, ⟨5, 1, false⟩, ⟨6, 1, false⟩], 7, 152, [.nil, .nil, .nil, .nil, .nil, .nil, .d (.v (.int .i64 0))]⟩ := rfl
@[go_sem] theorem ty60 : ty 60 = some ⟨.slc 112, 1, 24, [.nil]⟩ := rfl
@[go_sem] theorem ty63 : ty 63 = some ⟨.st [⟨0, 1, false⟩, ⟨1, 1, false⟩, ⟨2, 1, false⟩, ⟨3, 1, false⟩, ⟨4, 1, false⟩, ⟨5, 1, false⟩, ⟨6, 1, false⟩], 7, 152, [.nil, .nil, .nil, .nil, .nil, .nil, .d (.v (.int .i64 0))]⟩ := rfl
@[go_sem] theorem ty73 : ty 73 = some ⟨.slc 163, 1, 24, [.nil]⟩ := rfl
@[go_sem] theorem ty74 : ty 74 = some ⟨.st [⟨0, 1, false⟩], 1, 24, [.nil]⟩ := rfl
@[go_sem] theorem ty75 : ty 75 = some ⟨.st [⟨0, 1, false⟩], 1, 24, [.nil]⟩ := rfl
@[go_sem] theorem ty77 : ty 77 = some ⟨.slc 126, 1, 24, [.nil]⟩ := rfl
@[go_sem] theorem ty78 : ty 78 = some ⟨.st [⟨0, 1, false⟩], 1, 24, [.nil]⟩ := rfl
@[go_sem] theorem ty79 : ty 79 = some ⟨.st [⟨0, 1, false⟩], 1, 24, [.nil]⟩ := rfl
@[go_sem] theorem ty90 : ty 90 = some ⟨.st [⟨0, 1, false⟩, ⟨1, 1, false⟩, ⟨2, 1, false⟩, ⟨3, 1, false⟩, ⟨4, 3, true⟩], 7, 128, [.d (.v (.string ⟨#[]⟩)), .d (.v (.string ⟨#[]⟩)), .nil, .nil, .d (.v (.int .i64 0)), .d (.v (.string ⟨#[]⟩)), .nil]⟩ := rfl
@[go_sem] theorem ty91 : ty 91 = some ⟨.st [⟨0, 1, false⟩, ⟨1, 1, false⟩, ⟨2, 1, false⟩, ⟨3, 1, false⟩, ⟨4, 3, true⟩], 7, 128, [.d (.v (.string ⟨#[]⟩)), .d (.v (.string ⟨#[]⟩)), .nil, .nil, .d (.v (.int .i64 0)), .d (.v (.string ⟨#[]⟩)), .nil]⟩ := rfl
@[go_sem] theorem ty93 : ty 93 = some ⟨.st [⟨0, 1, false⟩, ⟨1, 1, false⟩], 2, 24, [.d (.v (.string ⟨#[]⟩)), .d (.v (.int .i64 0))]⟩ := rfl
@[go_sem] theorem ty94 : ty 94 = some ⟨.st [⟨0, 1, false⟩, ⟨1, 1, false⟩], 2, 24, [.d (.v (.string ⟨#[]⟩)), .d (.v (.int .i64 0))]⟩ := rfl
@[go_sem] theorem ty111 : ty 111 = some ⟨.st [⟨0, 1, false⟩, ⟨1, 1, false⟩], 2, 24, [.d (.v (.string ⟨#[]⟩)), .d (.v (.int .i64 0))]⟩ := rfl
@[go_sem] theorem ty112 : ty 112 = some ⟨.st [⟨0, 1, false⟩, ⟨1, 1, false⟩], 2, 24, [.d (.v (.string ⟨#[]⟩)), .d (.v (.int .i64 0))]⟩ := rfl
@[go_sem] theorem ty124 : ty 124 = some ⟨.slc 189, 1, 24, [.nil]⟩ := rfl
@[go_sem] theorem ty125 : ty 125 = some ⟨.st [⟨0, 1, false⟩, ⟨1, 3, true⟩, ⟨4, 1, false⟩, ⟨5, 1, false⟩, ⟨6, 1, false⟩, ⟨7, 1, false⟩, ⟨8, 1, false⟩, ⟨9, 1, false⟩, ⟨10, 1, false⟩], 11, 176, [.d (.v (.int .i64 0)), .d (.v (.int .i64 0)), .d (.v (.string ⟨#[]⟩)), .nil, .d (.v (.int .i64 0)), .nil, .d (.v (.string ⟨#[]⟩)), .d (.v (.string ⟨#[]⟩)), .nil, .nil, .d (.v (.int .i64 0))]⟩ := rfl
@[go_sem] theorem ty126 : ty 126 = some ⟨.st [⟨0, 1, false⟩, ⟨1, 3, true⟩, ⟨4, 1, false⟩, ⟨5, 1, false⟩, ⟨6, 1, false⟩, ⟨7, 1, false⟩, ⟨8, 1, false⟩, ⟨9, 1, false⟩, ⟨10, 1, false⟩], 11, 176, [.d (.v (.int .i64 0)), .d (.v (.int .i64 0)), .d (.v (.string ⟨#[]⟩)), .nil, .d (.v (.int .i64 0)), .nil, .d (.v (.string ⟨#[]⟩)), .d (.v (.string ⟨#[]⟩)), .nil, .nil, .d (.v (.int .i64 0))]⟩ := rfl
@[go_sem] theorem ty135 : ty 135 = some ⟨.st [⟨0, 1, false⟩, ⟨1, 1, false⟩, ⟨2, 1, false⟩, ⟨3, 1, false⟩, ⟨4, 3, true⟩], 7, 128, [.d (.v (.string ⟨#[]⟩)), .d (.v (.string ⟨#[]⟩)), .nil, .nil, .d (.v (.int .i64 0)), .d (.v (.string ⟨#[]⟩)), .nil]⟩ := rfl
@[go_sem] theorem ty136 : ty 136 = some ⟨.st [⟨0, 1, false⟩, ⟨1, 1, false⟩, ⟨2, 1, false⟩, ⟨3, 1, false⟩, ⟨4, 3, true⟩], 7, 128, [.d (.v (.string ⟨#[]⟩)), .d (.v (.string ⟨#[]⟩)), .nil, .nil, .d (.v (.int .i64 0)), .d (.v (.string ⟨#[]⟩)), .nil]⟩ := rfl
@[go_sem] theorem ty141 : ty 141 = some ⟨.mp 9 3, 1, 8, [.d (.v (.map none))]⟩ := rfl
@[go_sem] theorem ty153 : ty 153 = some ⟨.slc 5, 1, 24, [.nil]⟩ := rfl
@[go_sem] theorem ty161 : ty 161 = some ⟨.slc 199, 1, 24, [.nil]⟩ := rfl
@[go_sem] theorem ty162 : ty 162 = some ⟨.st [⟨0, 1, false⟩, ⟨1, 3, true⟩, ⟨4, 1, false⟩, ⟨5, 1, false⟩, ⟨6, 1, false⟩, ⟨7, 1, false⟩, ⟨8, 1, false⟩, ⟨9, 1, false⟩, ⟨10, 1, false⟩], 11, 176, [.d (.v (.int .i64 0)), .d (.v (.int .i64 0)), .d (.v (.string ⟨#[]⟩)), .nil, .d (.v (.int .i64 0)), .nil, .d (.v (.string ⟨#[]⟩)), .d (.v (.string ⟨#[]⟩)), .nil, .nil, .d (.v (.int .i64 0))]⟩ := rfl
@[go_sem] theorem ty163 : ty 163 = some ⟨.st [⟨0, 1, false⟩, ⟨1, 3, true⟩, ⟨4, 1, false⟩, ⟨5, 1, false⟩, ⟨6, 1, false⟩, ⟨7, 1, false⟩, ⟨8, 1, false⟩, ⟨9, 1, false⟩, ⟨10, 1, false⟩], 11, 176, [.d (.v (.int .i64 0)), .d (.v (.int .i64 0)), .d (.v (.string ⟨#[]⟩)), .nil, .d (.v (.int .i64 0)), .nil, .d (.v (.string ⟨#[]⟩)), .d (.v (.string ⟨#[]⟩)), .nil, .nil, .d (.v (.int .i64 0))]⟩ := rfl
@[go_sem] theorem ty182 : ty 182 = some ⟨.slc 53, 1, 24, [.nil]⟩ := rfl
@[go_sem] theorem ty188 : ty 188 = some ⟨.st [⟨0, 1, false⟩, ⟨1, 3, true⟩], 4, 64, [.d (.v (.string ⟨#[]⟩)), .d (.v (.int .i64 0)), .d (.v (.string ⟨#[]⟩)), .nil]⟩ := rfl
@[go_sem] theorem ty189 : ty 189 = some ⟨.st [⟨0, 1, false⟩, ⟨1, 3, true⟩], 4, 64, [.d (.v (.string ⟨#[]⟩)), .d (.v (.int .i64 0)), .d (.v (.string ⟨#[]⟩)), .nil]⟩ := rfl
@[go_sem] theorem ty198 : ty 198 = some ⟨.st [⟨0, 1, false⟩, ⟨1, 3, true⟩], 4, 64, [.d (.v (.string ⟨#[]⟩)), .d (.v (.int .i64 0)), .d (.v (.string ⟨#[]⟩)), .nil]⟩ := rfl
@[go_sem] theorem ty199 : ty 199 = some ⟨.st [⟨0, 1, false⟩, ⟨1, 3, true⟩], 4, 64, [.d (.v (.string ⟨#[]⟩)), .d (.v (.int .i64 0)), .d (.v (.string ⟨#[]⟩)), .nil]⟩ := rfl
@[go_sem] theorem ty205 : ty 205 = some ⟨.st [⟨0, 1, false⟩, ⟨1, 1, false⟩, ⟨2, 1, false⟩, ⟨3, 1, false⟩], 4, 40, [.d (.v (.pointer none)), .d (.v (.pointer none)), .d (.v (.pointer none)), .d (.v (.string ⟨#[]⟩))]⟩ := rfl
@[go_sem] theorem ty206 : ty 206 = some ⟨.st [⟨0, 1, false⟩, ⟨1, 1, false⟩, ⟨2, 1, false⟩, ⟨3, 1, false⟩], 4, 40, [.d (.v (.pointer none)), .d (.v (.pointer none)), .d (.v (.pointer none)), .d (.v (.string ⟨#[]⟩))]⟩ := rfl
@[go_sem] theorem ty211 : ty 211 = some ⟨.one, 1, 4, [.d (.v (.int .u32 0))]⟩ := rfl
@[go_sem] theorem ty212 : ty 212 = some ⟨.one, 1, 1, [.d (.v (.int .u8 0))]⟩ := rfl
@[go_sem] theorem ty213 : ty 213 = some ⟨.one, 1, 1, [.d (.v (.int .u8 0))]⟩ := rfl
@[go_sem] theorem ty216 : ty 216 = some ⟨.one, 1, 4, [.d (.v (.int .i32 0))]⟩ := rfl
@[go_sem] theorem ty217 : ty 217 = some ⟨.one, 1, 4, [.d (.v (.int .i32 0))]⟩ := rfl
@[go_sem] theorem ty218 : ty 218 = some ⟨.st [⟨0, 1, false⟩, ⟨1, 1, false⟩, ⟨2, 1, false⟩, ⟨3, 1, false⟩, ⟨4, 1, false⟩, ⟨5, 1, false⟩, ⟨6, 1, false⟩, ⟨7, 1, false⟩, ⟨8, 1, false⟩, ⟨9, 1, false⟩, ⟨10, 1, false⟩], 11, 48, [.d (.v (.int .u64 0)), .d (.v (.int .u64 0)), .d (.v (.int .u32 0)), .d (.v (.int .u8 0)), .d (.v (.int .u8 0)), .d (.v (.int .u8 0)), .d (.v (.int .u8 0)), .d (.v .nilFunc), .d (.v (.pointer none)), .d (.v (.int .i32 0)), .d (.v (.int .i32 0))]⟩ := rfl
@[go_sem] theorem ty219 : ty 219 = some ⟨.st [⟨0, 1, false⟩, ⟨1, 1, false⟩, ⟨2, 1, false⟩, ⟨3, 1, false⟩, ⟨4, 1, false⟩, ⟨5, 1, false⟩, ⟨6, 1, false⟩, ⟨7, 1, false⟩, ⟨8, 1, false⟩, ⟨9, 1, false⟩, ⟨10, 1, false⟩], 11, 48, [.d (.v (.int .u64 0)), .d (.v (.int .u64 0)), .d (.v (.int .u32 0)), .d (.v (.int .u8 0)), .d (.v (.int .u8 0)), .d (.v (.int .u8 0)), .d (.v (.int .u8 0)), .d (.v .nilFunc), .d (.v (.pointer none)), .d (.v (.int .i32 0)), .d (.v (.int .i32 0))]⟩ := rfl
theorem tyOk2 : TIOk Try.prog 2 ⟨.one, 1, 8, [.d (.v (.int .i64 0))]⟩ := by
  refine tiok_of (z := (.int .i64 0 : Value)) (by kernel_rfl) (by kernel_rfl) (by kernel_rfl) (by simp [ZsOk, ZOk, sc, Value.cells]) rfl (by decide) ?_ ?_ ?_
  · exact fun _ => ⟨_, rfl, rfl⟩
  · exact fun h => (by cases h)
  · exact ⟨rfl, _, Try.underlying2, fun q h => (by cases h), fun n e h => (by cases h)⟩
theorem tyOk3 : TIOk Try.prog 3 ⟨.one, 1, 8, [.d (.v (.int .i64 0))]⟩ := by
  refine tiok_of (z := (.int .i64 0 : Value)) (by kernel_rfl) (by kernel_rfl) (by kernel_rfl) (by simp [ZsOk, ZOk, sc, Value.cells]) rfl (by decide) ?_ ?_ ?_
  · exact fun _ => ⟨_, rfl, rfl⟩
  · exact fun h => (by cases h)
  · exact ⟨rfl, _, Try.underlying3, fun q h => (by cases h), fun n e h => (by cases h)⟩
theorem tyOk4 : TIOk Try.prog 4 ⟨.boo, 1, 1, [.d (.v (.bool false))]⟩ := by
  refine tiok_of (z := (.bool false : Value)) (by kernel_rfl) (by kernel_rfl) (by kernel_rfl) (by simp [ZsOk, ZOk, sc, Value.cells]) rfl (by decide) ?_ ?_ ?_
  · exact fun _ => ⟨_, rfl, rfl⟩
  · exact fun h => (by cases h)
  · exact ⟨rfl, Try.underlying4⟩
theorem tyOk5 : TIOk Try.prog 5 ⟨.one, 1, 1, [.d (.v (.int .u8 0))]⟩ := by
  refine tiok_of (z := (.int .u8 0 : Value)) (by kernel_rfl) (by kernel_rfl) (by kernel_rfl) (by simp [ZsOk, ZOk, sc, Value.cells]) rfl (by decide) ?_ ?_ ?_
  · exact fun _ => ⟨_, rfl, rfl⟩
  · exact fun h => (by cases h)
  · exact ⟨rfl, _, Try.underlying5, fun q h => (by cases h), fun n e h => (by cases h)⟩
theorem tyOk6 : TIOk Try.prog 6 ⟨.one, 1, 1, [.d (.v (.int .u8 0))]⟩ := by
  refine tiok_of (z := (.int .u8 0 : Value)) (by kernel_rfl) (by kernel_rfl) (by kernel_rfl) (by simp [ZsOk, ZOk, sc, Value.cells]) rfl (by decide) ?_ ?_ ?_
  · exact fun _ => ⟨_, rfl, rfl⟩
  · exact fun h => (by cases h)
  · exact ⟨rfl, _, Try.underlying6, fun q h => (by cases h), fun n e h => (by cases h)⟩
theorem tyOk7 : TIOk Try.prog 7 ⟨.st [⟨0, 1, false⟩, ⟨1, 1, false⟩, ⟨2, 1, false⟩, ⟨3, 1, false⟩], 4, 24, [.d (.v (.int .i64 0)), .d (.v (.int .i64 0)), .d (.v (.bool false)), .d (.v (.int .u8 0))]⟩ := by
  refine tiok_of (z := (.agg #[.int .i64 0, .int .i64 0, .bool false, .int .u8 0] : Value)) (by kernel_rfl) (by kernel_rfl) (by kernel_rfl) (by simp [ZsOk, ZOk, sc, Value.cells]) rfl (by decide) ?_ ?_ ?_
  · exact fun h => (by cases h)
  · exact fun _ => ⟨_, rfl⟩
  · refine ⟨_, Try.underlying7, ?_⟩
    refine ⟨⟨rfl, by kernel_rfl, by decide, fun h => (by cases h), fun _ => ⟨rfl, _, Try.underlying2, fun q h => (by cases h), fun n e h => (by cases h)⟩, exists_of_isSome (by kernel_rfl)⟩, ?_⟩
    refine ⟨⟨rfl, by kernel_rfl, by decide, fun h => (by cases h), fun _ => ⟨rfl, _, Try.underlying3, fun q h => (by cases h), fun n e h => (by cases h)⟩, exists_of_isSome (by kernel_rfl)⟩, ?_⟩
    refine ⟨⟨rfl, by kernel_rfl, by decide, fun h => (by cases h), fun _ => ⟨rfl, _, Try.underlying4, fun q h => (by cases h), fun n e h => (by cases h)⟩, exists_of_isSome (by kernel_rfl)⟩, ?_⟩
    refine ⟨⟨rfl, by kernel_rfl, by decide, fun h => (by cases h), fun _ => ⟨rfl, _, Try.underlying6, fun q h => (by cases h), fun n e h => (by cases h)⟩, exists_of_isSome (by kernel_rfl)⟩, ?_⟩
    trivial
theorem tyOk8 : TIOk Try.prog 8 ⟨.st [⟨0, 1, false⟩, ⟨1, 1, false⟩, ⟨2, 1, false⟩, ⟨3, 1, false⟩], 4, 24, [.d (.v (.int .i64 0)), .d (.v (.int .i64 0)), .d (.v (.bool false)), .d (.v (.int .u8 0))]⟩ := by
  refine tiok_of (z := (.agg #[.int .i64 0, .int .i64 0, .bool false, .int .u8 0] : Value)) (by kernel_rfl) (by kernel_rfl) (by kernel_rfl) (by simp [ZsOk, ZOk, sc, Value.cells]) rfl (by decide) ?_ ?_ ?_
  · exact fun h => (by cases h)
  · exact fun _ => ⟨_, rfl⟩
  · refine ⟨_, Try.underlying8, ?_⟩
    refine ⟨⟨rfl, by kernel_rfl, by decide, fun h => (by cases h), fun _ => ⟨rfl, _, Try.underlying2, fun q h => (by cases h), fun n e h => (by cases h)⟩, exists_of_isSome (by kernel_rfl)⟩, ?_⟩
    refine ⟨⟨rfl, by kernel_rfl, by decide, fun h => (by cases h), fun _ => ⟨rfl, _, Try.underlying3, fun q h => (by cases h), fun n e h => (by cases h)⟩, exists_of_isSome (by kernel_rfl)⟩, ?_⟩
    refine ⟨⟨rfl, by kernel_rfl, by decide, fun h => (by cases h), fun _ => ⟨rfl, _, Try.underlying4, fun q h => (by cases h), fun n e h => (by cases h)⟩, exists_of_isSome (by kernel_rfl)⟩, ?_⟩
    refine ⟨⟨rfl, by kernel_rfl, by decide, fun h => (by cases h), fun _ => ⟨rfl, _, Try.underlying6, fun q h => (by cases h), fun n e h => (by cases h)⟩, exists_of_isSome (by kernel_rfl)⟩, ?_⟩
    trivial
theorem tyOk9 : TIOk Try.prog 9 ⟨.str, 1, 16, [.d (.v (.string ⟨#[]⟩))]⟩ := by
  refine tiok_of (z := (.string ⟨#[]⟩ : Value)) (by kernel_rfl) (by kernel_rfl) (by kernel_rfl) (by simp [ZsOk, ZOk, sc, Value.cells]) rfl (by decide) ?_ ?_ ?_
  · exact fun _ => ⟨_, rfl, rfl⟩
  · exact fun h => (by cases h)
  · exact ⟨rfl, Try.underlying9⟩
theorem tyOk10 : TIOk Try.prog 10 ⟨.str, 1, 16, [.d (.v (.string ⟨#[]⟩))]⟩ := by
  refine tiok_of (z := (.string ⟨#[]⟩ : Value)) (by kernel_rfl) (by kernel_rfl) (by kernel_rfl) (by simp [ZsOk, ZOk, sc, Value.cells]) rfl (by decide) ?_ ?_ ?_
  · exact fun _ => ⟨_, rfl, rfl⟩
  · exact fun h => (by cases h)
  · exact ⟨rfl, Try.underlying10⟩
theorem tyOk11 : TIOk Try.prog 11 ⟨.str, 1, 16, [.d (.v (.string ⟨#[]⟩))]⟩ := by
  refine tiok_of (z := (.string ⟨#[]⟩ : Value)) (by kernel_rfl) (by kernel_rfl) (by kernel_rfl) (by simp [ZsOk, ZOk, sc, Value.cells]) rfl (by decide) ?_ ?_ ?_
  · exact fun _ => ⟨_, rfl, rfl⟩
  · exact fun h => (by cases h)
  · exact ⟨rfl, Try.underlying11⟩
theorem tyOk12 : TIOk Try.prog 12 ⟨.one, 1, 8, [.d (.v (.int .u64 0))]⟩ := by
  refine tiok_of (z := (.int .u64 0 : Value)) (by kernel_rfl) (by kernel_rfl) (by kernel_rfl) (by simp [ZsOk, ZOk, sc, Value.cells]) rfl (by decide) ?_ ?_ ?_
  · exact fun _ => ⟨_, rfl, rfl⟩
  · exact fun h => (by cases h)
  · exact ⟨rfl, _, Try.underlying12, fun q h => (by cases h), fun n e h => (by cases h)⟩
theorem tyOk13 : TIOk Try.prog 13 ⟨.st [⟨0, 1, false⟩, ⟨1, 1, false⟩], 2, 24, [.d (.v (.string ⟨#[]⟩)), .d (.v (.int .u64 0))]⟩ := by
  refine tiok_of (z := (.agg #[.string ⟨#[]⟩, .int .u64 0] : Value)) (by kernel_rfl) (by kernel_rfl) (by kernel_rfl) (by simp [ZsOk, ZOk, sc, Value.cells]) rfl (by decide) ?_ ?_ ?_
  · exact fun h => (by cases h)
  · exact fun _ => ⟨_, rfl⟩
  · refine ⟨_, Try.underlying13, ?_⟩
    refine ⟨⟨rfl, by kernel_rfl, by decide, fun h => (by cases h), fun _ => ⟨rfl, _, Try.underlying9, fun q h => (by cases h), fun n e h => (by cases h)⟩, exists_of_isSome (by kernel_rfl)⟩, ?_⟩
    refine ⟨⟨rfl, by kernel_rfl, by decide, fun h => (by cases h), fun _ => ⟨rfl, _, Try.underlying12, fun q h => (by cases h), fun n e h => (by cases h)⟩, exists_of_isSome (by kernel_rfl)⟩, ?_⟩
    trivial
theorem tyOk14 : TIOk Try.prog 14 ⟨.st [⟨0, 1, false⟩, ⟨1, 1, false⟩], 2, 24, [.d (.v (.string ⟨#[]⟩)), .d (.v (.int .u64 0))]⟩ := by
  refine tiok_of (z := (.agg #[.string ⟨#[]⟩, .int .u64 0] : Value)) (by kernel_rfl) (by kernel_rfl) (by kernel_rfl) (by simp [ZsOk, ZOk, sc, Value.cells]) rfl (by decide) ?_ ?_ ?_
  · exact fun h => (by cases h)
  · exact fun _ => ⟨_, rfl⟩
  · refine ⟨_, Try.underlying14, ?_⟩
    refine ⟨⟨rfl, by kernel_rfl, by decide, fun h => (by cases h), fun _ => ⟨rfl, _, Try.underlying9, fun q h => (by cases h), fun n e h => (by cases h)⟩, exists_of_isSome (by kernel_rfl)⟩, ?_⟩
    refine ⟨⟨rfl, by kernel_rfl, by decide, fun h => (by cases h), fun _ => ⟨rfl, _, Try.underlying12, fun q h => (by cases h), fun n e h => (by cases h)⟩, exists_of_isSome (by kernel_rfl)⟩, ?_⟩
    trivial
theorem tyOk18 : TIOk Try.prog 18 ⟨.st [⟨0, 1, false⟩], 1, 8, [.d (.v (.pointer none))]⟩ := by
  refine tiok_of (z := (.agg #[.pointer none] : Value)) (by kernel_rfl) (by kernel_rfl) (by kernel_rfl) (by simp [ZsOk, ZOk, sc, Value.cells]) rfl (by decide) ?_ ?_ ?_
  · exact fun h => (by cases h)
  · exact fun _ => ⟨_, rfl⟩
  · refine ⟨_, Try.underlying18, ?_⟩
    refine ⟨⟨rfl, by kernel_rfl, by decide, fun h => (by cases h), fun _ => ⟨rfl, _, Try.underlying17, fun q h => (by cases h), fun n e h => (by cases h)⟩, exists_of_isSome (by kernel_rfl)⟩, ?_⟩
    trivial
theorem tyOk19 : TIOk Try.prog 19 ⟨.st [⟨0, 1, false⟩], 1, 8, [.d (.v (.pointer none))]⟩ := by
  refine tiok_of (z := (.agg #[.pointer none] : Value)) (by kernel_rfl) (by kernel_rfl) (by kernel_rfl) (by simp [ZsOk, ZOk, sc, Value.cells]) rfl (by decide) ?_ ?_ ?_
  · exact fun h => (by cases h)
  · exact fun _ => ⟨_, rfl⟩
  · refine ⟨_, Try.underlying19, ?_⟩
    refine ⟨⟨rfl, by kernel_rfl, by decide, fun h => (by cases h), fun _ => ⟨rfl, _, Try.underlying17, fun q h => (by cases h), fun n e h => (by cases h)⟩, exists_of_isSome (by kernel_rfl)⟩, ?_⟩
    trivial
theorem tyOk21 : TIOk Try.prog 21 ⟨.one, 1, 4, [.d (.v (.int .i32 0))]⟩ := by
  refine tiok_of (z := (.int .i32 0 : Value)) (by kernel_rfl) (by kernel_rfl) (by kernel_rfl) (by simp [ZsOk, ZOk, sc, Value.cells]) rfl (by decide) ?_ ?_ ?_
  · exact fun _ => ⟨_, rfl, rfl⟩
  · exact fun h => (by cases h)
  · exact ⟨rfl, _, Try.underlying21, fun q h => (by cases h), fun n e h => (by cases h)⟩
theorem tyOk22 : TIOk Try.prog 22 ⟨.slc 136, 1, 24, [.nil]⟩ := by
  refine tiok_of (z := (.slice none 0 0 : Value)) (by kernel_rfl) (by kernel_rfl) (by kernel_rfl) (by simp [ZsOk, ZOk, sc, Value.cells]) rfl (by decide) ?_ ?_ ?_
  · exact fun _ => ⟨_, rfl, rfl⟩
  · exact fun h => (by cases h)
  · exact ⟨rfl, Try.underlying22⟩
theorem tyOk23 : TIOk Try.prog 23 ⟨.st [⟨0, 1, false⟩], 1, 24, [.nil]⟩ := by
  refine tiok_of (z := (.agg #[.slice none 0 0] : Value)) (by kernel_rfl) (by kernel_rfl) (by kernel_rfl) (by simp [ZsOk, ZOk, sc, Value.cells]) rfl (by decide) ?_ ?_ ?_
  · exact fun h => (by cases h)
  · exact fun _ => ⟨_, rfl⟩
  · refine ⟨_, Try.underlying23, ?_⟩
    refine ⟨⟨rfl, by kernel_rfl, by decide, fun h => (by cases h), fun _ => ⟨rfl, _, Try.underlying22, fun q h => (by cases h), fun n e h => (by cases h)⟩, exists_of_isSome (by kernel_rfl)⟩, ?_⟩
    trivial
theorem tyOk24 : TIOk Try.prog 24 ⟨.st [⟨0, 1, false⟩], 1, 24, [.nil]⟩ := by
  refine tiok_of (z := (.agg #[.slice none 0 0] : Value)) (by kernel_rfl) (by kernel_rfl) (by kernel_rfl) (by simp [ZsOk, ZOk, sc, Value.cells]) rfl (by decide) ?_ ?_ ?_
  · exact fun h => (by cases h)
  · exact fun _ => ⟨_, rfl⟩
  · refine ⟨_, Try.underlying24, ?_⟩
    refine ⟨⟨rfl, by kernel_rfl, by decide, fun h => (by cases h), fun _ => ⟨rfl, _, Try.underlying22, fun q h => (by cases h), fun n e h => (by cases h)⟩, exists_of_isSome (by kernel_rfl)⟩, ?_⟩
    trivial
theorem tyOk27 : TIOk Try.prog 27 ⟨.slc 91, 1, 24, [.nil]⟩ := by
  refine tiok_of (z := (.slice none 0 0 : Value)) (by kernel_rfl) (by kernel_rfl) (by kernel_rfl) (by simp [ZsOk, ZOk, sc, Value.cells]) rfl (by decide) ?_ ?_ ?_
  · exact fun _ => ⟨_, rfl, rfl⟩
  · exact fun h => (by cases h)
  · exact ⟨rfl, Try.underlying27⟩
theorem tyOk28 : TIOk Try.prog 28 ⟨.st [⟨0, 1, false⟩], 1, 24, [.nil]⟩ := by
  refine tiok_of (z := (.agg #[.slice none 0 0] : Value)) (by kernel_rfl) (by kernel_rfl) (by kernel_rfl) (by simp [ZsOk, ZOk, sc, Value.cells]) rfl (by decide) ?_ ?_ ?_
  · exact fun h => (by cases h)
  · exact fun _ => ⟨_, rfl⟩
  · refine ⟨_, Try.underlying28, ?_⟩
    refine ⟨⟨rfl, by kernel_rfl, by decide, fun h => (by cases h), fun _ => ⟨rfl, _, Try.underlying27, fun q h => (by cases h), fun n e h => (by cases h)⟩, exists_of_isSome (by kernel_rfl)⟩, ?_⟩
    trivial
theorem tyOk29 : TIOk Try.prog 29 ⟨.st [⟨0, 1, false⟩], 1, 24, [.nil]⟩ := by
  refine tiok_of (z := (.agg #[.slice none 0 0] : Value)) (by kernel_rfl) (by kernel_rfl) (by kernel_rfl) (by simp [ZsOk, ZOk, sc, Value.cells]) rfl (by decide) ?_ ?_ ?_
  · exact fun h => (by cases h)
  · exact fun _ => ⟨_, rfl⟩
  · refine ⟨_, Try.underlying29, ?_⟩
    refine ⟨⟨rfl, by kernel_rfl, by decide, fun h => (by cases h), fun _ => ⟨rfl, _, Try.underlying27, fun q h => (by cases h), fun n e h => (by cases h)⟩, exists_of_isSome (by kernel_rfl)⟩, ?_⟩
    trivial
theorem tyOk33 : TIOk Try.prog 33 ⟨.slc 35, 1, 24, [.nil]⟩ := by
  refine tiok_of (z := (.slice none 0 0 : Value)) (by kernel_rfl) (by kernel_rfl) (by kernel_rfl) (by simp [ZsOk, ZOk, sc, Value.cells]) rfl (by decide) ?_ ?_ ?_
  · exact fun _ => ⟨_, rfl, rfl⟩
  · exact fun h => (by cases h)
  · exact ⟨rfl, Try.underlying33⟩
theorem tyOk34 : TIOk Try.prog 34 ⟨.st [⟨0, 1, false⟩, ⟨1, 1, false⟩, ⟨2, 1, false⟩], 3, 48, [.d (.v (.int .i64 0)), .d (.v (.string ⟨#[]⟩)), .nil]⟩ := by
  refine tiok_of (z := (.agg #[.int .i64 0, .string ⟨#[]⟩, .slice none 0 0] : Value)) (by kernel_rfl) (by kernel_rfl) (by kernel_rfl) (by simp [ZsOk, ZOk, sc, Value.cells]) rfl (by decide) ?_ ?_ ?_
  · exact fun h => (by cases h)
  · exact fun _ => ⟨_, rfl⟩
  · refine ⟨_, Try.underlying34, ?_⟩
    refine ⟨⟨rfl, by kernel_rfl, by decide, fun h => (by cases h), fun _ => ⟨rfl, _, Try.underlying3, fun q h => (by cases h), fun n e h => (by cases h)⟩, exists_of_isSome (by kernel_rfl)⟩, ?_⟩
    refine ⟨⟨rfl, by kernel_rfl, by decide, fun h => (by cases h), fun _ => ⟨rfl, _, Try.underlying9, fun q h => (by cases h), fun n e h => (by cases h)⟩, exists_of_isSome (by kernel_rfl)⟩, ?_⟩
    refine ⟨⟨rfl, by kernel_rfl, by decide, fun h => (by cases h), fun _ => ⟨rfl, _, Try.underlying33, fun q h => (by cases h), fun n e h => (by cases h)⟩, exists_of_isSome (by kernel_rfl)⟩, ?_⟩
    trivial
theorem tyOk35 : TIOk Try.prog 35 ⟨.st [⟨0, 1, false⟩, ⟨1, 1, false⟩, ⟨2, 1, false⟩], 3, 48, [.d (.v (.int .i64 0)), .d (.v (.string ⟨#[]⟩)), .nil]⟩ := by
  refine tiok_of (z := (.agg #[.int .i64 0, .string ⟨#[]⟩, .slice none 0 0] : Value)) (by kernel_rfl) (by kernel_rfl) (by kernel_rfl) (by simp [ZsOk, ZOk, sc, Value.cells]) rfl (by decide) ?_ ?_ ?_
  · exact fun h => (by cases h)
  · exact fun _ => ⟨_, rfl⟩
  · refine ⟨_, Try.underlying35, ?_⟩
    refine ⟨⟨rfl, by kernel_rfl, by decide, fun h => (by cases h), fun _ => ⟨rfl, _, Try.underlying3, fun q h => (by cases h), fun n e h => (by cases h)⟩, exists_of_isSome (by kernel_rfl)⟩, ?_⟩
    refine ⟨⟨rfl, by kernel_rfl, by decide, fun h => (by cases h), fun _ => ⟨rfl, _, Try.underlying9, fun q h => (by cases h), fun n e h => (by cases h)⟩, exists_of_isSome (by kernel_rfl)⟩, ?_⟩
    refine ⟨⟨rfl, by kernel_rfl, by decide, fun h => (by cases h), fun _ => ⟨rfl, _, Try.underlying33, fun q h => (by cases h), fun n e h => (by cases h)⟩, exists_of_isSome (by kernel_rfl)⟩, ?_⟩
    trivial
theorem tyOk36 : TIOk Try.prog 36 ⟨.st [⟨0, 1, true⟩, ⟨1, 3, true⟩], 4, 72, [.nil, .d (.v (.int .i64 0)), .d (.v (.string ⟨#[]⟩)), .nil]⟩ := by
  refine tiok_of (z := (.agg #[.slice none 0 0, .int .i64 0, .string ⟨#[]⟩, .slice none 0 0] : Value)) (by kernel_rfl) (by kernel_rfl) (by kernel_rfl) (by simp [ZsOk, ZOk, sc, Value.cells]) rfl (by decide) ?_ ?_ ?_
  · exact fun h => (by cases h)
  · exact fun _ => ⟨_, rfl⟩
  · refine ⟨_, Try.underlying36, ?_⟩
    refine ⟨⟨rfl, by kernel_rfl, by decide, fun _ => ⟨_, Try.underlying24⟩, fun h => (by cases h), exists_of_isSome (by kernel_rfl)⟩, ?_⟩
    refine ⟨⟨rfl, by kernel_rfl, by decide, fun _ => ⟨_, Try.underlying35⟩, fun h => (by cases h), exists_of_isSome (by kernel_rfl)⟩, ?_⟩
    trivial
theorem tyOk37 : TIOk Try.prog 37 ⟨.st [⟨0, 1, true⟩, ⟨1, 3, true⟩], 4, 72, [.nil, .d (.v (.int .i64 0)), .d (.v (.string ⟨#[]⟩)), .nil]⟩ := by
  refine tiok_of (z := (.agg #[.slice none 0 0, .int .i64 0, .string ⟨#[]⟩, .slice none 0 0] : Value)) (by kernel_rfl) (by kernel_rfl) (by kernel_rfl) (by simp [ZsOk, ZOk, sc, Value.cells]) rfl (by decide) ?_ ?_ ?_
  · exact fun h => (by cases h)
  · exact fun _ => ⟨_, rfl⟩
  · refine ⟨_, Try.underlying37, ?_⟩
    refine ⟨⟨rfl, by kernel_rfl, by decide, fun _ => ⟨_, Try.underlying24⟩, fun h => (by cases h), exists_of_isSome (by kernel_rfl)⟩, ?_⟩
    refine ⟨⟨rfl, by kernel_rfl, by decide, fun _ => ⟨_, Try.underlying35⟩, fun h => (by cases h), exists_of_isSome (by kernel_rfl)⟩, ?_⟩
    trivial
theorem tyOk40 : TIOk Try.prog 40 ⟨.slc 42, 1, 24, [.nil]⟩ := by
  refine tiok_of (z := (.slice none 0 0 : Value)) (by kernel_rfl) (by kernel_rfl) (by kernel_rfl) (by simp [ZsOk, ZOk, sc, Value.cells]) rfl (by decide) ?_ ?_ ?_
  · exact fun _ => ⟨_, rfl, rfl⟩
  · exact fun h => (by cases h)
  · exact ⟨rfl, Try.underlying40⟩
theorem tyOk41 : TIOk Try.prog 41 ⟨.st [⟨0, 1, false⟩, ⟨1, 1, false⟩, ⟨2, 1, false⟩], 3, 48, [.d (.v (.int .i64 0)), .d (.v (.string ⟨#[]⟩)), .nil]⟩ := by
  refine tiok_of (z := (.agg #[.int .i64 0, .string ⟨#[]⟩, .slice none 0 0] : Value)) (by kernel_rfl) (by kernel_rfl) (by kernel_rfl) (by simp [ZsOk, ZOk, sc, Value.cells]) rfl (by decide) ?_ ?_ ?_
  · exact fun h => (by cases h)
  · exact fun _ => ⟨_, rfl⟩
  · refine ⟨_, Try.underlying41, ?_⟩
    refine ⟨⟨rfl, by kernel_rfl, by decide, fun h => (by cases h), fun _ => ⟨rfl, _, Try.underlying3, fun q h => (by cases h), fun n e h => (by cases h)⟩, exists_of_isSome (by kernel_rfl)⟩, ?_⟩
    refine ⟨⟨rfl, by kernel_rfl, by decide, fun h => (by cases h), fun _ => ⟨rfl, _, Try.underlying9, fun q h => (by cases h), fun n e h => (by cases h)⟩, exists_of_isSome (by kernel_rfl)⟩, ?_⟩
    refine ⟨⟨rfl, by kernel_rfl, by decide, fun h => (by cases h), fun _ => ⟨rfl, _, Try.underlying40, fun q h => (by cases h), fun n e h => (by cases h)⟩, exists_of_isSome (by kernel_rfl)⟩, ?_⟩
    trivial
theorem tyOk42 : TIOk Try.prog 42 ⟨.st [⟨0, 1, false⟩, ⟨1, 1, false⟩, ⟨2, 1, false⟩], 3, 48, [.d (.v (.int .i64 0)), .d (.v (.string ⟨#[]⟩)), .nil]⟩ := by
  refine tiok_of (z := (.agg #[.int .i64 0, .string ⟨#[]⟩, .slice none 0 0] : Value)) (by kernel_rfl) (by kernel_rfl) (by kernel_rfl) (by simp [ZsOk, ZOk, sc, Value.cells]) rfl (by decide) ?_ ?_ ?_
  · exact fun h => (by cases h)
  · exact fun _ => ⟨_, rfl⟩
  · refine ⟨_, Try.underlying42, ?_⟩
    refine ⟨⟨rfl, by kernel_rfl, by decide, fun h => (by cases h), fun _ => ⟨rfl, _, Try.underlying3, fun q h => (by cases h), fun n e h => (by cases h)⟩, exists_of_isSome (by kernel_rfl)⟩, ?_⟩
    refine ⟨⟨rfl, by kernel_rfl, by decide, fun h => (by cases h), fun _ => ⟨rfl, _, Try.underlying9, fun q h => (by cases h), fun n e h => (by cases h)⟩, exists_of_isSome (by kernel_rfl)⟩, ?_⟩
    refine ⟨⟨rfl, by kernel_rfl, by decide, fun h => (by cases h), fun _ => ⟨rfl, _, Try.underlying40, fun q h => (by cases h), fun n e h => (by cases h)⟩, exists_of_isSome (by kernel_rfl)⟩, ?_⟩
    trivial
theorem tyOk43 : TIOk Try.prog 43 ⟨.st [⟨0, 1, true⟩, ⟨1, 3, true⟩], 4, 72, [.nil, .d (.v (.int .i64 0)), .d (.v (.string ⟨#[]⟩)), .nil]⟩ := by
  refine tiok_of (z := (.agg #[.slice none 0 0, .int .i64 0, .string ⟨#[]⟩, .slice none 0 0] : Value)) (by kernel_rfl) (by kernel_rfl) (by kernel_rfl) (by simp [ZsOk, ZOk, sc, Value.cells]) rfl (by decide) ?_ ?_ ?_
  · exact fun h => (by cases h)
  · exact fun _ => ⟨_, rfl⟩
  · refine ⟨_, Try.underlying43, ?_⟩
    refine ⟨⟨rfl, by kernel_rfl, by decide, fun _ => ⟨_, Try.underlying29⟩, fun h => (by cases h), exists_of_isSome (by kernel_rfl)⟩, ?_⟩
    refine ⟨⟨rfl, by kernel_rfl, by decide, fun _ => ⟨_, Try.underlying42⟩, fun h => (by cases h), exists_of_isSome (by kernel_rfl)⟩, ?_⟩
    trivial
theorem tyOk44 : TIOk Try.prog 44 ⟨.st [⟨0, 1, true⟩, ⟨1, 3, true⟩], 4, 72, [.nil, .d (.v (.int .i64 0)), .d (.v (.string ⟨#[]⟩)), .nil]⟩ := by
  refine tiok_of (z := (.agg #[.slice none 0 0, .int .i64 0, .string ⟨#[]⟩, .slice none 0 0] : Value)) (by kernel_rfl) (by kernel_rfl) (by kernel_rfl) (by simp [ZsOk, ZOk, sc, Value.cells]) rfl (by decide) ?_ ?_ ?_
  · exact fun h => (by cases h)
  · exact fun _ => ⟨_, rfl⟩
  · refine ⟨_, Try.underlying44, ?_⟩
    refine ⟨⟨rfl, by kernel_rfl, by decide, fun _ => ⟨_, Try.underlying29⟩, fun h => (by cases h), exists_of_isSome (by kernel_rfl)⟩, ?_⟩
    refine ⟨⟨rfl, by kernel_rfl, by decide, fun _ => ⟨_, Try.underlying42⟩, fun h => (by cases h), exists_of_isSome (by kernel_rfl)⟩, ?_⟩
    trivial
theorem tyOk48 : TIOk Try.prog 48 ⟨.slc 94, 1, 24, [.nil]⟩ := by
  refine tiok_of (z := (.slice none 0 0 : Value)) (by kernel_rfl) (by kernel_rfl) (by kernel_rfl) (by simp [ZsOk, ZOk, sc, Value.cells]) rfl (by decide) ?_ ?_ ?_
  · exact fun _ => ⟨_, rfl, rfl⟩
  · exact fun h => (by cases h)
  · exact ⟨rfl, Try.underlying48⟩
theorem tyOk53 : TIOk Try.prog 53 ⟨.slc 9, 1, 24, [.nil]⟩ := by
  refine tiok_of (z := (.slice none 0 0 : Value)) (by kernel_rfl) (by kernel_rfl) (by kernel_rfl) (by simp [ZsOk, ZOk, sc, Value.cells]) rfl (by decide) ?_ ?_ ?_
  · exact fun _ => ⟨_, rfl, rfl⟩
  · exact fun h => (by cases h)
  · exact ⟨rfl, Try.underlying53⟩
theorem tyOk54 : TIOk Try.prog 54 ⟨.slc 3, 1, 24, [.nil]⟩ := by
  refine tiok_of (z := (.slice none 0 0 : Value)) (by kernel_rfl) (by kernel_rfl) (by kernel_rfl) (by simp [ZsOk, ZOk, sc, Value.cells]) rfl (by decide) ?_ ?_ ?_
  · exact fun _ => ⟨_, rfl, rfl⟩
  · exact fun h => (by cases h)
  · exact ⟨rfl, Try.underlying54⟩
theorem tyOk55 : TIOk Try.prog 55 ⟨.slc 54, 1, 24, [.nil]⟩ := by
  refine tiok_of (z := (.slice none 0 0 : Value)) (by kernel_rfl) (by kernel_rfl) (by kernel_rfl) (by simp [ZsOk, ZOk, sc, Value.cells]) rfl (by decide) ?_ ?_ ?_
  · exact fun _ => ⟨_, rfl, rfl⟩
  · exact fun h => (by cases h)
  · exact ⟨rfl, Try.underlying55⟩
theorem tyOk56 : TIOk Try.prog 56 ⟨.st [⟨0, 1, false⟩, ⟨1, 1, false⟩, ⟨2, 1, false⟩, ⟨3, 1, false⟩, ⟨4, 1, false⟩, ⟨5, 1, false⟩, ⟨6, 1, false⟩], 7, 152, [.nil, .nil, .nil, .nil, .nil, .nil, .d (.v (.int .i64 0))]⟩ := by
  refine tiok_of (z := (.agg #[.slice none 0 0, .slice none 0 0, .slice none 0 0, .slice none 0 0, .slice none 0 0, .slice none 0 0, .int .i64 0] : Value)) (by kernel_rfl) (by kernel_rfl) (by kernel_rfl) (by simp [ZsOk, ZOk, sc, Value.cells]) rfl (by decide) ?_ ?_ ?_
  · exact fun h => (by cases h)
  · exact fun _ => ⟨_, rfl⟩
  · refine ⟨_, Try.underlying56, ?_⟩
    refine ⟨⟨rfl, by kernel_rfl, by decide, fun h => (by cases h), fun _ => ⟨rfl, _, Try.underlying53, fun q h => (by cases h), fun n e h => (by cases h)⟩, exists_of_isSome (by kernel_rfl)⟩, ?_⟩
    refine ⟨⟨rfl, by kernel_rfl, by decide, fun h => (by cases h), fun _ => ⟨rfl, _, Try.underlying54, fun q h => (by cases h), fun n e h => (by cases h)⟩, exists_of_isSome (by kernel_rfl)⟩, ?_⟩
    refine ⟨⟨rfl, by kernel_rfl, by decide, fun h => (by cases h), fun _ => ⟨rfl, _, Try.underlying55, fun q h => (by cases h), fun n e h => (by cases h)⟩, exists_of_isSome (by kernel_rfl)⟩, ?_⟩
    refine ⟨⟨rfl, by kernel_rfl, by decide, fun h => (by cases h), fun _ => ⟨rfl, _, Try.underlying53, fun q h => (by cases h), fun n e h => (by cases h)⟩, exists_of_isSome (by kernel_rfl)⟩, ?_⟩
    refine ⟨⟨rfl, by kernel_rfl, by decide, fun h => (by cases h), fun _ => ⟨rfl, _, Try.underlying55, fun q h => (by cases h), fun n e h => (by cases h)⟩, exists_of_isSome (by kernel_rfl)⟩, ?_⟩
    refine ⟨⟨rfl, by kernel_rfl, by decide, fun h => (by cases h), fun _ => ⟨rfl, _, Try.underlying54, fun q h => (by cases h), fun n e h => (by cases h)⟩, exists_of_isSome (by kernel_rfl)⟩, ?_⟩
    refine ⟨⟨rfl, by kernel_rfl, by decide, fun h => (by cases h), fun _ => ⟨rfl, _, Try.underlying3, fun q h => (by cases h), fun n e h => (by cases h)⟩, exists_of_isSome (by kernel_rfl)⟩, ?_⟩
    trivial
theorem tyOk57 : TIOk Try.prog 57 ⟨.st [⟨0, 1, false⟩, ⟨1, 1, false⟩, ⟨2, 1, false⟩, ⟨3, 1, false⟩, ⟨4, 1, false⟩, ⟨5, 1, false⟩, ⟨6, 1, false⟩], 7, 152, [.nil, .nil, .nil, .nil, .nil, .nil, .d (.v (.int .i64 0))]⟩ := by
  refine tiok_of (z := (.agg #[.slice none 0 0, .slice none 0 0, .slice none 0 0, .slice none 0 0, .slice none 0 0, .slice none 0 0, .int .i64 0] : Value)) (by kernel_rfl) (by kernel_rfl) (by kernel_rfl) (by simp [ZsOk, ZOk, sc, Value.cells]) rfl (by decide) ?_ ?_ ?_
  · exact fun h => (by cases h)
  · exact fun _ => ⟨_, rfl⟩
  · refine ⟨_, Try.underlying57, ?_⟩
    refine ⟨⟨rfl, by kernel_rfl, by decide, fun h => (by cases h), fun _ => ⟨rfl, _, Try.underlying53, fun q h => (by cases h), fun n e h => (by cases h)⟩, exists_of_isSome (by kernel_rfl)⟩, ?_⟩
    refine ⟨⟨rfl, by kernel_rfl, by decide, fun h => (by cases h), fun _ => ⟨rfl, _, Try.underlying54, fun q h => (by cases h), fun n e h => (by cases h)⟩, exists_of_isSome (by kernel_rfl)⟩, ?_⟩
    refine ⟨⟨rfl, by kernel_rfl, by decide, fun h => (by cases h), fun _ => ⟨rfl, _, Try.underlying55, fun q h => (by cases h), fun n e h => (by cases h)⟩, exists_of_isSome (by kernel_rfl)⟩, ?_⟩
    refine ⟨⟨rfl, by kernel_rfl, by decide, fun h => (by cases h), fun _ => ⟨rfl, _, Try.underlying53, fun q h => (by cases h), fun n e h => (by cases h)⟩, exists_of_isSome (by kernel_rfl)⟩, ?_⟩
    refine ⟨⟨rfl, by kernel_rfl, by decide, fun h => (by cases h), fun _ => ⟨rfl, _, Try.underlying55, fun q h => (by cases h), fun n e h => (by cases h)⟩, exists_of_isSome (by kernel_rfl)⟩, ?_⟩
    refine ⟨⟨rfl, by kernel_rfl, by decide, fun h => (by cases h), fun _ => ⟨rfl, _, Try.underlying54, fun q h => (by cases h), fun n e h => (by cases h)⟩, exists_of_isSome (by kernel_rfl)⟩, ?_⟩
    refine ⟨⟨rfl, by kernel_rfl, by decide, fun h => (by cases h), fun _ => ⟨rfl, _, Try.underlying3, fun q h => (by cases h), fun n e h => (by cases h)⟩, exists_of_isSome (by kernel_rfl)⟩, ?_⟩
    trivial
theorem tyOk60 : TIOk Try.prog 60 ⟨.slc 112, 1, 24, [.nil]⟩ := by
  refine tiok_of (z := (.slice none 0 0 : Value)) (by kernel_rfl) (by kernel_rfl) (by kernel_rfl) (by simp [ZsOk, ZOk, sc, Value.cells]) rfl (by decide) ?_ ?_ ?_
  · exact fun _ => ⟨_, rfl, rfl⟩
  · exact fun h => (by cases h)
  · exact ⟨rfl, Try.underlying60⟩
theorem tyOk63 : TIOk Try.prog 63 ⟨.st [⟨0, 1, false⟩, ⟨1, 1, false⟩, ⟨2, 1, false⟩, ⟨3, 1, false⟩, ⟨4, 1, false⟩, ⟨5, 1, false⟩, ⟨6, 1, false⟩], 7, 152, [.nil, .nil, .nil, .nil, .nil, .nil, .d (.v (.int .i64 0))]⟩ := by
  refine tiok_of (z := (.agg #[.slice none 0 0, .slice none 0 0, .slice none 0 0, .slice none 0 0, .slice none 0 0, .slice none 0 0, .int .i64 0] : Value)) (by kernel_rfl) (by kernel_rfl) (by kernel_rfl) (by simp [ZsOk, ZOk, sc, Value.cells]) rfl (by decide) ?_ ?_ ?_
  · exact fun h => (by cases h)
  · exact fun _ => ⟨_, rfl⟩
  · refine ⟨_, Try.underlying63, ?_⟩
    refine ⟨⟨rfl, by kernel_rfl, by decide, fun h => (by cases h), fun _ => ⟨rfl, _, Try.underlying53, fun q h => (by cases h), fun n e h => (by cases h)⟩, exists_of_isSome (by kernel_rfl)⟩, ?_⟩
    refine ⟨⟨rfl, by kernel_rfl, by decide, fun h => (by cases h), fun _ => ⟨rfl, _, Try.underlying54, fun q h => (by cases h), fun n e h => (by cases h)⟩, exists_of_isSome (by kernel_rfl)⟩, ?_⟩
    refine ⟨⟨rfl, by kernel_rfl, by decide, fun h => (by cases h), fun _ => ⟨rfl, _, Try.underlying55, fun q h => (by cases h), fun n e h => (by cases h)⟩, exists_of_isSome (by kernel_rfl)⟩, ?_⟩
    refine ⟨⟨rfl, by kernel_rfl, by decide, fun h => (by cases h), fun _ => ⟨rfl, _, Try.underlying53, fun q h => (by cases h), fun n e h => (by cases h)⟩, exists_of_isSome (by kernel_rfl)⟩, ?_⟩
    refine ⟨⟨rfl, by kernel_rfl, by decide, fun h => (by cases h), fun _ => ⟨rfl, _, Try.underlying55, fun q h => (by cases h), fun n e h => (by cases h)⟩, exists_of_isSome (by kernel_rfl)⟩, ?_⟩
    refine ⟨⟨rfl, by kernel_rfl, by decide, fun h => (by cases h), fun _ => ⟨rfl, _, Try.underlying54, fun q h => (by cases h), fun n e h => (by cases h)⟩, exists_of_isSome (by kernel_rfl)⟩, ?_⟩
    refine ⟨⟨rfl, by kernel_rfl, by decide, fun h => (by cases h), fun _ => ⟨rfl, _, Try.underlying3, fun q h => (by cases h), fun n e h => (by cases h)⟩, exists_of_isSome (by kernel_rfl)⟩, ?_⟩
    trivial
theorem tyOk73 : TIOk Try.prog 73 ⟨.slc 163, 1, 24, [.nil]⟩ := by
  refine tiok_of (z := (.slice none 0 0 : Value)) (by kernel_rfl) (by kernel_rfl) (by kernel_rfl) (by simp [ZsOk, ZOk, sc, Value.cells]) rfl (by decide) ?_ ?_ ?_
  · exact fun _ => ⟨_, rfl, rfl⟩
  · exact fun h => (by cases h)
  · exact ⟨rfl, Try.underlying73⟩
theorem tyOk74 : TIOk Try.prog 74 ⟨.st [⟨0, 1, false⟩], 1, 24, [.nil]⟩ := by
  refine tiok_of (z := (.agg #[.slice none 0 0] : Value)) (by kernel_rfl) (by kernel_rfl) (by kernel_rfl) (by simp [ZsOk, ZOk, sc, Value.cells]) rfl (by decide) ?_ ?_ ?_
  · exact fun h => (by cases h)
  · exact fun _ => ⟨_, rfl⟩
  · refine ⟨_, Try.underlying74, ?_⟩
    refine ⟨⟨rfl, by kernel_rfl, by decide, fun h => (by cases h), fun _ => ⟨rfl, _, Try.underlying73, fun q h => (by cases h), fun n e h => (by cases h)⟩, exists_of_isSome (by kernel_rfl)⟩, ?_⟩
    trivial
theorem tyOk75 : TIOk Try.prog 75 ⟨.st [⟨0, 1, false⟩], 1, 24, [.nil]⟩ := by
  refine tiok_of (z := (.agg #[.slice none 0 0] : Value)) (by kernel_rfl) (by kernel_rfl) (by kernel_rfl) (by simp [ZsOk, ZOk, sc, Value.cells]) rfl (by decide) ?_ ?_ ?_
  · exact fun h => (by cases h)
  · exact fun _ => ⟨_, rfl⟩
  · refine ⟨_, Try.underlying75, ?_⟩
    refine ⟨⟨rfl, by kernel_rfl, by decide, fun h => (by cases h), fun _ => ⟨rfl, _, Try.underlying73, fun q h => (by cases h), fun n e h => (by cases h)⟩, exists_of_isSome (by kernel_rfl)⟩, ?_⟩
    trivial
theorem tyOk77 : TIOk Try.prog 77 ⟨.slc 126, 1, 24, [.nil]⟩ := by
  refine tiok_of (z := (.slice none 0 0 : Value)) (by kernel_rfl) (by kernel_rfl) (by kernel_rfl) (by simp [ZsOk, ZOk, sc, Value.cells]) rfl (by decide) ?_ ?_ ?_
  · exact fun _ => ⟨_, rfl, rfl⟩
  · exact fun h => (by cases h)
  · exact ⟨rfl, Try.underlying77⟩
theorem tyOk78 : TIOk Try.prog 78 ⟨.st [⟨0, 1, false⟩], 1, 24, [.nil]⟩ := by
  refine tiok_of (z := (.agg #[.slice none 0 0] : Value)) (by kernel_rfl) (by kernel_rfl) (by kernel_rfl) (by simp [ZsOk, ZOk, sc, Value.cells]) rfl (by decide) ?_ ?_ ?_
  · exact fun h => (by cases h)
  · exact fun _ => ⟨_, rfl⟩
  · refine ⟨_, Try.underlying78, ?_⟩
    refine ⟨⟨rfl, by kernel_rfl, by decide, fun h => (by cases h), fun _ => ⟨rfl, _, Try.underlying77, fun q h => (by cases h), fun n e h => (by cases h)⟩, exists_of_isSome (by kernel_rfl)⟩, ?_⟩
    trivial
theorem tyOk79 : TIOk Try.prog 79 ⟨.st [⟨0, 1, false⟩], 1, 24, [.nil]⟩ := by
  refine tiok_of (z := (.agg #[.slice none 0 0] : Value)) (by kernel_rfl) (by kernel_rfl) (by kernel_rfl) (by simp [ZsOk, ZOk, sc, Value.cells]) rfl (by decide) ?_ ?_ ?_
  · exact fun h => (by cases h)
  · exact fun _ => ⟨_, rfl⟩
  · refine ⟨_, Try.underlying79, ?_⟩
    refine ⟨⟨rfl, by kernel_rfl, by decide, fun h => (by cases h), fun _ => ⟨rfl, _, Try.underlying77, fun q h => (by cases h), fun n e h => (by cases h)⟩, exists_of_isSome (by kernel_rfl)⟩, ?_⟩
    trivial
theorem tyOk90 : TIOk Try.prog 90 ⟨.st [⟨0, 1, false⟩, ⟨1, 1, false⟩, ⟨2, 1, false⟩, ⟨3, 1, false⟩, ⟨4, 3, true⟩], 7, 128, [.d (.v (.string ⟨#[]⟩)), .d (.v (.string ⟨#[]⟩)), .nil, .nil, .d (.v (.int .i64 0)), .d (.v (.string ⟨#[]⟩)), .nil]⟩ := by
  refine tiok_of (z := (.agg #[.string ⟨#[]⟩, .string ⟨#[]⟩, .slice none 0 0, .slice none 0 0, .int .i64 0, .string ⟨#[]⟩, .slice none 0 0] : Value)) (by kernel_rfl) (by kernel_rfl) (by kernel_rfl) (by simp [ZsOk, ZOk, sc, Value.cells]) rfl (by decide) ?_ ?_ ?_
  · exact fun h => (by cases h)
  · exact fun _ => ⟨_, rfl⟩
  · refine ⟨_, Try.underlying90, ?_⟩
    refine ⟨⟨rfl, by kernel_rfl, by decide, fun h => (by cases h), fun _ => ⟨rfl, _, Try.underlying9, fun q h => (by cases h), fun n e h => (by cases h)⟩, exists_of_isSome (by kernel_rfl)⟩, ?_⟩
    refine ⟨⟨rfl, by kernel_rfl, by decide, fun h => (by cases h), fun _ => ⟨rfl, _, Try.underlying9, fun q h => (by cases h), fun n e h => (by cases h)⟩, exists_of_isSome (by kernel_rfl)⟩, ?_⟩
    refine ⟨⟨rfl, by kernel_rfl, by decide, fun h => (by cases h), fun _ => ⟨rfl, _, Try.underlying53, fun q h => (by cases h), fun n e h => (by cases h)⟩, exists_of_isSome (by kernel_rfl)⟩, ?_⟩
    refine ⟨⟨rfl, by kernel_rfl, by decide, fun h => (by cases h), fun _ => ⟨rfl, _, Try.underlying53, fun q h => (by cases h), fun n e h => (by cases h)⟩, exists_of_isSome (by kernel_rfl)⟩, ?_⟩
    refine ⟨⟨rfl, by kernel_rfl, by decide, fun _ => ⟨_, Try.underlying42⟩, fun h => (by cases h), exists_of_isSome (by kernel_rfl)⟩, ?_⟩
    trivial
theorem tyOk91 : TIOk Try.prog 91 ⟨.st [⟨0, 1, false⟩, ⟨1, 1, false⟩, ⟨2, 1, false⟩, ⟨3, 1, false⟩, ⟨4, 3, true⟩], 7, 128, [.d (.v (.string ⟨#[]⟩)), .d (.v (.string ⟨#[]⟩)), .nil, .nil, .d (.v (.int .i64 0)), .d (.v (.string ⟨#[]⟩)), .nil]⟩ := by
  refine tiok_of (z := (.agg #[.string ⟨#[]⟩, .string ⟨#[]⟩, .slice none 0 0, .slice none 0 0, .int .i64 0, .string ⟨#[]⟩, .slice none 0 0] : Value)) (by kernel_rfl) (by kernel_rfl) (by kernel_rfl) (by simp [ZsOk, ZOk, sc, Value.cells]) rfl (by decide) ?_ ?_ ?_
  · exact fun h => (by cases h)
  · exact fun _ => ⟨_, rfl⟩
  · refine ⟨_, Try.underlying91, ?_⟩
    refine ⟨⟨rfl, by kernel_rfl, by decide, fun h => (by cases h), fun _ => ⟨rfl, _, Try.underlying9, fun q h => (by cases h), fun n e h => (by cases h)⟩, exists_of_isSome (by kernel_rfl)⟩, ?_⟩
    refine ⟨⟨rfl, by kernel_rfl, by decide, fun h => (by cases h), fun _ => ⟨rfl, _, Try.underlying9, fun q h => (by cases h), fun n e h => (by cases h)⟩, exists_of_isSome (by kernel_rfl)⟩, ?_⟩
    refine ⟨⟨rfl, by kernel_rfl, by decide, fun h => (by cases h), fun _ => ⟨rfl, _, Try.underlying53, fun q h => (by cases h), fun n e h => (by cases h)⟩, exists_of_isSome (by kernel_rfl)⟩, ?_⟩
    refine ⟨⟨rfl, by kernel_rfl, by decide, fun h => (by cases h), fun _ => ⟨rfl, _, Try.underlying53, fun q h => (by cases h), fun n e h => (by cases h)⟩, exists_of_isSome (by kernel_rfl)⟩, ?_⟩
    refine ⟨⟨rfl, by kernel_rfl, by decide, fun _ => ⟨_, Try.underlying42⟩, fun h => (by cases h), exists_of_isSome (by kernel_rfl)⟩, ?_⟩
    trivial
theorem tyOk93 : TIOk Try.prog 93 ⟨.st [⟨0, 1, false⟩, ⟨1, 1, false⟩], 2, 24, [.d (.v (.string ⟨#[]⟩)), .d (.v (.int .i64 0))]⟩ := by
  refine tiok_of (z := (.agg #[.string ⟨#[]⟩, .int .i64 0] : Value)) (by kernel_rfl) (by kernel_rfl) (by kernel_rfl) (by simp [ZsOk, ZOk, sc, Value.cells]) rfl (by decide) ?_ ?_ ?_
  · exact fun h => (by cases h)
  · exact fun _ => ⟨_, rfl⟩
  · refine ⟨_, Try.underlying93, ?_⟩
    refine ⟨⟨rfl, by kernel_rfl, by decide, fun h => (by cases h), fun _ => ⟨rfl, _, Try.underlying9, fun q h => (by cases h), fun n e h => (by cases h)⟩, exists_of_isSome (by kernel_rfl)⟩, ?_⟩
    refine ⟨⟨rfl, by kernel_rfl, by decide, fun h => (by cases h), fun _ => ⟨rfl, _, Try.underlying3, fun q h => (by cases h), fun n e h => (by cases h)⟩, exists_of_isSome (by kernel_rfl)⟩, ?_⟩
    trivial
theorem tyOk94 : TIOk Try.prog 94 ⟨.st [⟨0, 1, false⟩, ⟨1, 1, false⟩], 2, 24, [.d (.v (.string ⟨#[]⟩)), .d (.v (.int .i64 0))]⟩ := by
  refine tiok_of (z := (.agg #[.string ⟨#[]⟩, .int .i64 0] : Value)) (by kernel_rfl) (by kernel_rfl) (by kernel_rfl) (by simp [ZsOk, ZOk, sc, Value.cells]) rfl (by decide) ?_ ?_ ?_
  · exact fun h => (by cases h)
  · exact fun _ => ⟨_, rfl⟩
  · refine ⟨_, Try.underlying94, ?_⟩
    refine ⟨⟨rfl, by kernel_rfl, by decide, fun h => (by cases h), fun _ => ⟨rfl, _, Try.underlying9, fun q h => (by cases h), fun n e h => (by cases h)⟩, exists_of_isSome (by kernel_rfl)⟩, ?_⟩
    refine ⟨⟨rfl, by kernel_rfl, by decide, fun h => (by cases h), fun _ => ⟨rfl, _, Try.underlying3, fun q h => (by cases h), fun n e h => (by cases h)⟩, exists_of_isSome (by kernel_rfl)⟩, ?_⟩
    trivial
theorem tyOk111 : TIOk Try.prog 111 ⟨.st [⟨0, 1, false⟩, ⟨1, 1, false⟩], 2, 24, [.d (.v (.string ⟨#[]⟩)), .d (.v (.int .i64 0))]⟩ := by
  refine tiok_of (z := (.agg #[.string ⟨#[]⟩, .int .i64 0] : Value)) (by kernel_rfl) (by kernel_rfl) (by kernel_rfl) (by simp [ZsOk, ZOk, sc, Value.cells]) rfl (by decide) ?_ ?_ ?_
  · exact fun h => (by cases h)
  · exact fun _ => ⟨_, rfl⟩
  · refine ⟨_, Try.underlying111, ?_⟩
    refine ⟨⟨rfl, by kernel_rfl, by decide, fun h => (by cases h), fun _ => ⟨rfl, _, Try.underlying9, fun q h => (by cases h), fun n e h => (by cases h)⟩, exists_of_isSome (by kernel_rfl)⟩, ?_⟩
    refine ⟨⟨rfl, by kernel_rfl, by decide, fun h => (by cases h), fun _ => ⟨rfl, _, Try.underlying3, fun q h => (by cases h), fun n e h => (by cases h)⟩, exists_of_isSome (by kernel_rfl)⟩, ?_⟩
    trivial
theorem tyOk112 : TIOk Try.prog 112 ⟨.st [⟨0, 1, false⟩, ⟨1, 1, false⟩], 2, 24, [.d (.v (.string ⟨#[]⟩)), .d (.v (.int .i64 0))]⟩ := by
  refine tiok_of (z := (.agg #[.string ⟨#[]⟩, .int .i64 0] : Value)) (by kernel_rfl) (by kernel_rfl) (by kernel_rfl) (by simp [ZsOk, ZOk, sc, Value.cells]) rfl (by decide) ?_ ?_ ?_
  · exact fun h => (by cases h)
  · exact fun _ => ⟨_, rfl⟩
  · refine ⟨_, Try.underlying112, ?_⟩
    refine ⟨⟨rfl, by kernel_rfl, by decide, fun h => (by cases h), fun _ => ⟨rfl, _, Try.underlying9, fun q h => (by cases h), fun n e h => (by cases h)⟩, exists_of_isSome (by kernel_rfl)⟩, ?_⟩
    refine ⟨⟨rfl, by kernel_rfl, by decide, fun h => (by cases h), fun _ => ⟨rfl, _, Try.underlying3, fun q h => (by cases h), fun n e h => (by cases h)⟩, exists_of_isSome (by kernel_rfl)⟩, ?_⟩
    trivial
theorem tyOk124 : TIOk Try.prog 124 ⟨.slc 189, 1, 24, [.nil]⟩ := by
  refine tiok_of (z := (.slice none 0 0 : Value)) (by kernel_rfl) (by kernel_rfl) (by kernel_rfl) (by simp [ZsOk, ZOk, sc, Value.cells]) rfl (by decide) ?_ ?_ ?_
  · exact fun _ => ⟨_, rfl, rfl⟩
  · exact fun h => (by cases h)
  · exact ⟨rfl, Try.underlying124⟩
theorem tyOk125 : TIOk Try.prog 125 ⟨.st [⟨0, 1, false⟩, ⟨1, 3, true⟩, ⟨4, 1, false⟩, ⟨5, 1, false⟩, ⟨6, 1, false⟩, ⟨7, 1, false⟩, ⟨8, 1, false⟩, ⟨9, 1, false⟩, ⟨10, 1, false⟩], 11, 176, [.d (.v (.int .i64 0)), .d (.v (.int .i64 0)), .d (.v (.string ⟨#[]⟩)), .nil, .d (.v (.int .i64 0)), .nil, .d (.v (.string ⟨#[]⟩)), .d (.v (.string ⟨#[]⟩)), .nil, .nil, .d (.v (.int .i64 0))]⟩ := by
  refine tiok_of (z := (.agg #[.int .i64 0, .int .i64 0, .string ⟨#[]⟩, .slice none 0 0, .int .i64 0, .slice none 0 0, .string ⟨#[]⟩, .string ⟨#[]⟩, .slice none 0 0, .slice none 0 0, .int .i64 0] : Value)) (by kernel_rfl) (by kernel_rfl) (by kernel_rfl) (by simp [ZsOk, ZOk, sc, Value.cells]) rfl (by decide) ?_ ?_ ?_
  · exact fun h => (by cases h)
  · exact fun _ => ⟨_, rfl⟩
  · refine ⟨_, Try.underlying125, ?_⟩
    refine ⟨⟨rfl, by kernel_rfl, by decide, fun h => (by cases h), fun _ => ⟨rfl, _, Try.underlying3, fun q h => (by cases h), fun n e h => (by cases h)⟩, exists_of_isSome (by kernel_rfl)⟩, ?_⟩
    refine ⟨⟨rfl, by kernel_rfl, by decide, fun _ => ⟨_, Try.underlying42⟩, fun h => (by cases h), exists_of_isSome (by kernel_rfl)⟩, ?_⟩
    refine ⟨⟨rfl, by kernel_rfl, by decide, fun h => (by cases h), fun _ => ⟨rfl, _, Try.underlying3, fun q h => (by cases h), fun n e h => (by cases h)⟩, exists_of_isSome (by kernel_rfl)⟩, ?_⟩
    refine ⟨⟨rfl, by kernel_rfl, by decide, fun h => (by cases h), fun _ => ⟨rfl, _, Try.underlying54, fun q h => (by cases h), fun n e h => (by cases h)⟩, exists_of_isSome (by kernel_rfl)⟩, ?_⟩
    refine ⟨⟨rfl, by kernel_rfl, by decide, fun h => (by cases h), fun _ => ⟨rfl, _, Try.underlying9, fun q h => (by cases h), fun n e h => (by cases h)⟩, exists_of_isSome (by kernel_rfl)⟩, ?_⟩
    refine ⟨⟨rfl, by kernel_rfl, by decide, fun h => (by cases h), fun _ => ⟨rfl, _, Try.underlying9, fun q h => (by cases h), fun n e h => (by cases h)⟩, exists_of_isSome (by kernel_rfl)⟩, ?_⟩
    refine ⟨⟨rfl, by kernel_rfl, by decide, fun h => (by cases h), fun _ => ⟨rfl, _, Try.underlying53, fun q h => (by cases h), fun n e h => (by cases h)⟩, exists_of_isSome (by kernel_rfl)⟩, ?_⟩
    refine ⟨⟨rfl, by kernel_rfl, by decide, fun h => (by cases h), fun _ => ⟨rfl, _, Try.underlying124, fun q h => (by cases h), fun n e h => (by cases h)⟩, exists_of_isSome (by kernel_rfl)⟩, ?_⟩
    refine ⟨⟨rfl, by kernel_rfl, by decide, fun h => (by cases h), fun _ => ⟨rfl, _, Try.underlying3, fun q h => (by cases h), fun n e h => (by cases h)⟩, exists_of_isSome (by kernel_rfl)⟩, ?_⟩
    trivial
theorem tyOk126 : TIOk Try.prog 126 ⟨.st [⟨0, 1, false⟩, ⟨1, 3, true⟩, ⟨4, 1, false⟩, ⟨5, 1, false⟩, ⟨6, 1, false⟩, ⟨7, 1, false⟩, ⟨8, 1, false⟩, ⟨9, 1, false⟩, ⟨10, 1, false⟩], 11, 176, [.d (.v (.int .i64 0)), .d (.v (.int .i64 0)), .d (.v (.string ⟨#[]⟩)), .nil, .d (.v (.int .i64 0)), .nil, .d (.v (.string ⟨#[]⟩)), .d (.v (.string ⟨#[]⟩)), .nil, .nil, .d (.v (.int .i64 0))]⟩ := by
  refine tiok_of (z := (.agg #[.int .i64 0, .int .i64 0, .string ⟨#[]⟩, .slice none 0 0, .int .i64 0, .slice none 0 0, .string ⟨#[]⟩, .string ⟨#[]⟩, .slice none 0 0, .slice none 0 0, .int .i64 0] : Value)) (by kernel_rfl) (by kernel_rfl) (by kernel_rfl) (by simp [ZsOk, ZOk, sc, Value.cells]) rfl (by decide) ?_ ?_ ?_
  · exact fun h => (by cases h)
  · exact fun _ => ⟨_, rfl⟩
  · refine ⟨_, Try.underlying126, ?_⟩
    refine ⟨⟨rfl, by kernel_rfl, by decide, fun h => (by cases h), fun _ => ⟨rfl, _, Try.underlying3, fun q h => (by cases h), fun n e h => (by cases h)⟩, exists_of_isSome (by kernel_rfl)⟩, ?_⟩
    refine ⟨⟨rfl, by kernel_rfl, by decide, fun _ => ⟨_, Try.underlying42⟩, fun h => (by cases h), exists_of_isSome (by kernel_rfl)⟩, ?_⟩
    refine ⟨⟨rfl, by kernel_rfl, by decide, fun h => (by cases h), fun _ => ⟨rfl, _, Try.underlying3, fun q h => (by cases h), fun n e h => (by cases h)⟩, exists_of_isSome (by kernel_rfl)⟩, ?_⟩
    refine ⟨⟨rfl, by kernel_rfl, by decide, fun h => (by cases h), fun _ => ⟨rfl, _, Try.underlying54, fun q h => (by cases h), fun n e h => (by cases h)⟩, exists_of_isSome (by kernel_rfl)⟩, ?_⟩
    refine ⟨⟨rfl, by kernel_rfl, by decide, fun h => (by cases h), fun _ => ⟨rfl, _, Try.underlying9, fun q h => (by cases h), fun n e h => (by cases h)⟩, exists_of_isSome (by kernel_rfl)⟩, ?_⟩
    refine ⟨⟨rfl, by kernel_rfl, by decide, fun h => (by cases h), fun _ => ⟨rfl, _, Try.underlying9, fun q h => (by cases h), fun n e h => (by cases h)⟩, exists_of_isSome (by kernel_rfl)⟩, ?_⟩
    refine ⟨⟨rfl, by kernel_rfl, by decide, fun h => (by cases h), fun _ => ⟨rfl, _, Try.underlying53, fun q h => (by cases h), fun n e h => (by cases h)⟩, exists_of_isSome (by kernel_rfl)⟩, ?_⟩
    refine ⟨⟨rfl, by kernel_rfl, by decide, fun h => (by cases h), fun _ => ⟨rfl, _, Try.underlying124, fun q h => (by cases h), fun n e h => (by cases h)⟩, exists_of_isSome (by kernel_rfl)⟩, ?_⟩
    refine ⟨⟨rfl, by kernel_rfl, by decide, fun h => (by cases h), fun _ => ⟨rfl, _, Try.underlying3, fun q h => (by cases h), fun n e h => (by cases h)⟩, exists_of_isSome (by kernel_rfl)⟩, ?_⟩
    trivial
theorem tyOk135 : TIOk Try.prog 135 ⟨.st [⟨0, 1, false⟩, ⟨1, 1, false⟩, ⟨2, 1, false⟩, ⟨3, 1, false⟩, ⟨4, 3, true⟩], 7, 128, [.d (.v (.string ⟨#[]⟩)), .d (.v (.string ⟨#[]⟩)), .nil, .nil, .d (.v (.int .i64 0)), .d (.v (.string ⟨#[]⟩)), .nil]⟩ := by
  refine tiok_of (z := (.agg #[.string ⟨#[]⟩, .string ⟨#[]⟩, .slice none 0 0, .slice none 0 0, .int .i64 0, .string ⟨#[]⟩, .slice none 0 0] : Value)) (by kernel_rfl) (by kernel_rfl) (by kernel_rfl) (by simp [ZsOk, ZOk, sc, Value.cells]) rfl (by decide) ?_ ?_ ?_
  · exact fun h => (by cases h)
  · exact fun _ => ⟨_, rfl⟩
  · refine ⟨_, Try.underlying135, ?_⟩
    refine ⟨⟨rfl, by kernel_rfl, by decide, fun h => (by cases h), fun _ => ⟨rfl, _, Try.underlying9, fun q h => (by cases h), fun n e h => (by cases h)⟩, exists_of_isSome (by kernel_rfl)⟩, ?_⟩
    refine ⟨⟨rfl, by kernel_rfl, by decide, fun h => (by cases h), fun _ => ⟨rfl, _, Try.underlying9, fun q h => (by cases h), fun n e h => (by cases h)⟩, exists_of_isSome (by kernel_rfl)⟩, ?_⟩
    refine ⟨⟨rfl, by kernel_rfl, by decide, fun h => (by cases h), fun _ => ⟨rfl, _, Try.underlying53, fun q h => (by cases h), fun n e h => (by cases h)⟩, exists_of_isSome (by kernel_rfl)⟩, ?_⟩
    refine ⟨⟨rfl, by kernel_rfl, by decide, fun h => (by cases h), fun _ => ⟨rfl, _, Try.underlying53, fun q h => (by cases h), fun n e h => (by cases h)⟩, exists_of_isSome (by kernel_rfl)⟩, ?_⟩
    refine ⟨⟨rfl, by kernel_rfl, by decide, fun _ => ⟨_, Try.underlying35⟩, fun h => (by cases h), exists_of_isSome (by kernel_rfl)⟩, ?_⟩
    trivial
theorem tyOk136 : TIOk Try.prog 136 ⟨.st [⟨0, 1, false⟩, ⟨1, 1, false⟩, ⟨2, 1, false⟩, ⟨3, 1, false⟩, ⟨4, 3, true⟩], 7, 128, [.d (.v (.string ⟨#[]⟩)), .d (.v (.string ⟨#[]⟩)), .nil, .nil, .d (.v (.int .i64 0)), .d (.v (.string ⟨#[]⟩)), .nil]⟩ := by
  refine tiok_of (z := (.agg #[.string ⟨#[]⟩, .string ⟨#[]⟩, .slice none 0 0, .slice none 0 0, .int .i64 0, .string ⟨#[]⟩, .slice none 0 0] : Value)) (by kernel_rfl) (by kernel_rfl) (by kernel_rfl) (by simp [ZsOk, ZOk, sc, Value.cells]) rfl (by decide) ?_ ?_ ?_
  · exact fun h => (by cases h)
  · exact fun _ => ⟨_, rfl⟩
  · refine ⟨_, Try.underlying136, ?_⟩
    refine ⟨⟨rfl, by kernel_rfl, by decide, fun h => (by cases h), fun _ => ⟨rfl, _, Try.underlying9, fun q h => (by cases h), fun n e h => (by cases h)⟩, exists_of_isSome (by kernel_rfl)⟩, ?_⟩
    refine ⟨⟨rfl, by kernel_rfl, by decide, fun h => (by cases h), fun _ => ⟨rfl, _, Try.underlying9, fun q h => (by cases h), fun n e h => (by cases h)⟩, exists_of_isSome (by kernel_rfl)⟩, ?_⟩
    refine ⟨⟨rfl, by kernel_rfl, by decide, fun h => (by cases h), fun _ => ⟨rfl, _, Try.underlying53, fun q h => (by cases h), fun n e h => (by cases h)⟩, exists_of_isSome (by kernel_rfl)⟩, ?_⟩
    refine ⟨⟨rfl, by kernel_rfl, by decide, fun h => (by cases h), fun _ => ⟨rfl, _, Try.underlying53, fun q h => (by cases h), fun n e h => (by cases h)⟩, exists_of_isSome (by kernel_rfl)⟩, ?_⟩
    refine ⟨⟨rfl, by kernel_rfl, by decide, fun _ => ⟨_, Try.underlying35⟩, fun h => (by cases h), exists_of_isSome (by kernel_rfl)⟩, ?_⟩
    trivial
theorem tyOk141 : TIOk Try.prog 141 ⟨.mp 9 3, 1, 8, [.d (.v (.map none))]⟩ := by
  refine tiok_of (z := (.map none : Value)) (by kernel_rfl) (by kernel_rfl) (by kernel_rfl) (by simp [ZsOk, ZOk, sc, Value.cells]) rfl (by decide) ?_ ?_ ?_
  · exact fun _ => ⟨_, rfl, rfl⟩
  · exact fun h => (by cases h)
  · exact ⟨rfl, Try.underlying141⟩
theorem tyOk153 : TIOk Try.prog 153 ⟨.slc 5, 1, 24, [.nil]⟩ := by
  refine tiok_of (z := (.slice none 0 0 : Value)) (by kernel_rfl) (by kernel_rfl) (by kernel_rfl) (by simp [ZsOk, ZOk, sc, Value.cells]) rfl (by decide) ?_ ?_ ?_
  · exact fun _ => ⟨_, rfl, rfl⟩
  · exact fun h => (by cases h)
  · exact ⟨rfl, Try.underlying153⟩
theorem tyOk161 : TIOk Try.prog 161 ⟨.slc 199, 1, 24, [.nil]⟩ := by
  refine tiok_of (z := (.slice none 0 0 : Value)) (by kernel_rfl) (by kernel_rfl) (by kernel_rfl) (by simp [ZsOk, ZOk, sc, Value.cells]) rfl (by decide) ?_ ?_ ?_
  · exact fun _ => ⟨_, rfl, rfl⟩
  · exact fun h => (by cases h)
  · exact ⟨rfl, Try.underlying161⟩
theorem tyOk162 : TIOk Try.prog 162 ⟨.st [⟨0, 1, false⟩, ⟨1, 3, true⟩, ⟨4, 1, false⟩, ⟨5, 1, false⟩, ⟨6, 1, false⟩, ⟨7, 1, false⟩, ⟨8, 1, false⟩, ⟨9, 1, false⟩, ⟨10, 1, false⟩], 11, 176, [.d (.v (.int .i64 0)), .d (.v (.int .i64 0)), .d (.v (.string ⟨#[]⟩)), .nil, .d (.v (.int .i64 0)), .nil, .d (.v (.string ⟨#[]⟩)), .d (.v (.string ⟨#[]⟩)), .nil, .nil, .d (.v (.int .i64 0))]⟩ := by
  refine tiok_of (z := (.agg #[.int .i64 0, .int .i64 0, .string ⟨#[]⟩, .slice none 0 0, .int .i64 0, .slice none 0 0, .string ⟨#[]⟩, .string ⟨#[]⟩, .slice none 0 0, .slice none 0 0, .int .i64 0] : Value)) (by kernel_rfl) (by kernel_rfl) (by kernel_rfl) (by simp [ZsOk, ZOk, sc, Value.cells]) rfl (by decide) ?_ ?_ ?_
  · exact fun h => (by cases h)
  · exact fun _ => ⟨_, rfl⟩
  · refine ⟨_, Try.underlying162, ?_⟩
    refine ⟨⟨rfl, by kernel_rfl, by decide, fun h => (by cases h), fun _ => ⟨rfl, _, Try.underlying3, fun q h => (by cases h), fun n e h => (by cases h)⟩, exists_of_isSome (by kernel_rfl)⟩, ?_⟩
    refine ⟨⟨rfl, by kernel_rfl, by decide, fun _ => ⟨_, Try.underlying35⟩, fun h => (by cases h), exists_of_isSome (by kernel_rfl)⟩, ?_⟩
    refine ⟨⟨rfl, by kernel_rfl, by decide, fun h => (by cases h), fun _ => ⟨rfl, _, Try.underlying3, fun q h => (by cases h), fun n e h => (by cases h)⟩, exists_of_isSome (by kernel_rfl)⟩, ?_⟩
    refine ⟨⟨rfl, by kernel_rfl, by decide, fun h => (by cases h), fun _ => ⟨rfl, _, Try.underlying54, fun q h => (by cases h), fun n e h => (by cases h)⟩, exists_of_isSome (by kernel_rfl)⟩, ?_⟩
    refine ⟨⟨rfl, by kernel_rfl, by decide, fun h => (by cases h), fun _ => ⟨rfl, _, Try.underlying9, fun q h => (by cases h), fun n e h => (by cases h)⟩, exists_of_isSome (by kernel_rfl)⟩, ?_⟩
    refine ⟨⟨rfl, by kernel_rfl, by decide, fun h => (by cases h), fun _ => ⟨rfl, _, Try.underlying9, fun q h => (by cases h), fun n e h => (by cases h)⟩, exists_of_isSome (by kernel_rfl)⟩, ?_⟩
    refine ⟨⟨rfl, by kernel_rfl, by decide, fun h => (by cases h), fun _ => ⟨rfl, _, Try.underlying53, fun q h => (by cases h), fun n e h => (by cases h)⟩, exists_of_isSome (by kernel_rfl)⟩, ?_⟩
    refine ⟨⟨rfl, by kernel_rfl, by decide, fun h => (by cases h), fun _ => ⟨rfl, _, Try.underlying161, fun q h => (by cases h), fun n e h => (by cases h)⟩, exists_of_isSome (by kernel_rfl)⟩, ?_⟩
    refine ⟨⟨rfl, by kernel_rfl, by decide, fun h => (by cases h), fun _ => ⟨rfl, _, Try.underlying3, fun q h => (by cases h), fun n e h => (by cases h)⟩, exists_of_isSome (by kernel_rfl)⟩, ?_⟩
    trivial
theorem tyOk163 : TIOk Try.prog 163 ⟨.st [⟨0, 1, false⟩, ⟨1, 3, true⟩, ⟨4, 1, false⟩, ⟨5, 1, false⟩, ⟨6, 1, false⟩, ⟨7, 1, false⟩, ⟨8, 1, false⟩, ⟨9, 1, false⟩, ⟨10, 1, false⟩], 11, 176, [.d (.v (.int .i64 0)), .d (.v (.int .i64 0)), .d (.v (.string ⟨#[]⟩)), .nil, .d (.v (.int .i64 0)), .nil, .d (.v (.string ⟨#[]⟩)), .d (.v (.string ⟨#[]⟩)), .nil, .nil, .d (.v (.int .i64 0))]⟩ := by
  refine tiok_of (z := (.agg #[.int .i64 0, .int .i64 0, .string ⟨#[]⟩, .slice none 0 0, .int .i64 0, .slice none 0 0, .string ⟨#[]⟩, .string ⟨#[]⟩, .slice none 0 0, .slice none 0 0, .int .i64 0] : Value)) (by kernel_rfl) (by kernel_rfl) (by kernel_rfl) (by simp [ZsOk, ZOk, sc, Value.cells]) rfl (by decide) ?_ ?_ ?_
  · exact fun h => (by cases h)
  · exact fun _ => ⟨_, rfl⟩
  · refine ⟨_, Try.underlying163, ?_⟩
    refine ⟨⟨rfl, by kernel_rfl, by decide, fun h => (by cases h), fun _ => ⟨rfl, _, Try.underlying3, fun q h => (by cases h), fun n e h => (by cases h)⟩, exists_of_isSome (by kernel_rfl)⟩, ?_⟩
    refine ⟨⟨rfl, by kernel_rfl, by decide, fun _ => ⟨_, Try.underlying35⟩, fun h => (by cases h), exists_of_isSome (by kernel_rfl)⟩, ?_⟩
    refine ⟨⟨rfl, by kernel_rfl, by decide, fun h => (by cases h), fun _ => ⟨rfl, _, Try.underlying3, fun q h => (by cases h), fun n e h => (by cases h)⟩, exists_of_isSome (by kernel_rfl)⟩, ?_⟩
    refine ⟨⟨rfl, by kernel_rfl, by decide, fun h => (by cases h), fun _ => ⟨rfl, _, Try.underlying54, fun q h => (by cases h), fun n e h => (by cases h)⟩, exists_of_isSome (by kernel_rfl)⟩, ?_⟩
    refine ⟨⟨rfl, by kernel_rfl, by decide, fun h => (by cases h), fun _ => ⟨rfl, _, Try.underlying9, fun q h => (by cases h), fun n e h => (by cases h)⟩, exists_of_isSome (by kernel_rfl)⟩, ?_⟩
    refine ⟨⟨rfl, by kernel_rfl, by decide, fun h => (by cases h), fun _ => ⟨rfl, _, Try.underlying9, fun q h => (by cases h), fun n e h => (by cases h)⟩, exists_of_isSome (by kernel_rfl)⟩, ?_⟩
    refine ⟨⟨rfl, by kernel_rfl, by decide, fun h => (by cases h), fun _ => ⟨rfl, _, Try.underlying53, fun q h => (by cases h), fun n e h => (by cases h)⟩, exists_of_isSome (by kernel_rfl)⟩, ?_⟩
    refine ⟨⟨rfl, by kernel_rfl, by decide, fun h => (by cases h), fun _ => ⟨rfl, _, Try.underlying161, fun q h => (by cases h), fun n e h => (by cases h)⟩, exists_of_isSome (by kernel_rfl)⟩, ?_⟩
    refine ⟨⟨rfl, by kernel_rfl, by decide, fun h => (by cases h), fun _ => ⟨rfl, _, Try.underlying3, fun q h => (by cases h), fun n e h => (by cases h)⟩, exists_of_isSome (by kernel_rfl)⟩, ?_⟩
    trivial
theorem tyOk182 : TIOk Try.prog 182 ⟨.slc 53, 1, 24, [.nil]⟩ := by
  refine tiok_of (z := (.slice none 0 0 : Value)) (by kernel_rfl) (by kernel_rfl) (by kernel_rfl) (by simp [ZsOk, ZOk, sc, Value.cells]) rfl (by decide) ?_ ?_ ?_
  · exact fun _ => ⟨_, rfl, rfl⟩
  · exact fun h => (by cases h)
  · exact ⟨rfl, Try.underlying182⟩
theorem tyOk188 : TIOk Try.prog 188 ⟨.st [⟨0, 1, false⟩, ⟨1, 3, true⟩], 4, 64, [.d (.v (.string ⟨#[]⟩)), .d (.v (.int .i64 0)), .d (.v (.string ⟨#[]⟩)), .nil]⟩ := by
  refine tiok_of (z := (.agg #[.string ⟨#[]⟩, .int .i64 0, .string ⟨#[]⟩, .slice none 0 0] : Value)) (by kernel_rfl) (by kernel_rfl) (by kernel_rfl) (by simp [ZsOk, ZOk, sc, Value.cells]) rfl (by decide) ?_ ?_ ?_
  · exact fun h => (by cases h)
  · exact fun _ => ⟨_, rfl⟩
  · refine ⟨_, Try.underlying188, ?_⟩
    refine ⟨⟨rfl, by kernel_rfl, by decide, fun h => (by cases h), fun _ => ⟨rfl, _, Try.underlying9, fun q h => (by cases h), fun n e h => (by cases h)⟩, exists_of_isSome (by kernel_rfl)⟩, ?_⟩
    refine ⟨⟨rfl, by kernel_rfl, by decide, fun _ => ⟨_, Try.underlying42⟩, fun h => (by cases h), exists_of_isSome (by kernel_rfl)⟩, ?_⟩
    trivial
theorem tyOk189 : TIOk Try.prog 189 ⟨.st [⟨0, 1, false⟩, ⟨1, 3, true⟩], 4, 64, [.d (.v (.string ⟨#[]⟩)), .d (.v (.int .i64 0)), .d (.v (.string ⟨#[]⟩)), .nil]⟩ := by
  refine tiok_of (z := (.agg #[.string ⟨#[]⟩, .int .i64 0, .string ⟨#[]⟩, .slice none 0 0] : Value)) (by kernel_rfl) (by kernel_rfl) (by kernel_rfl) (by simp [ZsOk, ZOk, sc, Value.cells]) rfl (by decide) ?_ ?_ ?_
  · exact fun h => (by cases h)
  · exact fun _ => ⟨_, rfl⟩
  · refine ⟨_, Try.underlying189, ?_⟩
    refine ⟨⟨rfl, by kernel_rfl, by decide, fun h => (by cases h), fun _ => ⟨rfl, _, Try.underlying9, fun q h => (by cases h), fun n e h => (by cases h)⟩, exists_of_isSome (by kernel_rfl)⟩, ?_⟩
    refine ⟨⟨rfl, by kernel_rfl, by decide, fun _ => ⟨_, Try.underlying42⟩, fun h => (by cases h), exists_of_isSome (by kernel_rfl)⟩, ?_⟩
    trivial
theorem tyOk198 : TIOk Try.prog 198 ⟨.st [⟨0, 1, false⟩, ⟨1, 3, true⟩], 4, 64, [.d (.v (.string ⟨#[]⟩)), .d (.v (.int .i64 0)), .d (.v (.string ⟨#[]⟩)), .nil]⟩ := by
  refine tiok_of (z := (.agg #[.string ⟨#[]⟩, .int .i64 0, .string ⟨#[]⟩, .slice none 0 0] : Value)) (by kernel_rfl) (by kernel_rfl) (by kernel_rfl) (by simp [ZsOk, ZOk, sc, Value.cells]) rfl (by decide) ?_ ?_ ?_
  · exact fun h => (by cases h)
  · exact fun _ => ⟨_, rfl⟩
  · refine ⟨_, Try.underlying198, ?_⟩
    refine ⟨⟨rfl, by kernel_rfl, by decide, fun h => (by cases h), fun _ => ⟨rfl, _, Try.underlying9, fun q h => (by cases h), fun n e h => (by cases h)⟩, exists_of_isSome (by kernel_rfl)⟩, ?_⟩
    refine ⟨⟨rfl, by kernel_rfl, by decide, fun _ => ⟨_, Try.underlying35⟩, fun h => (by cases h), exists_of_isSome (by kernel_rfl)⟩, ?_⟩
    trivial
theorem tyOk199 : TIOk Try.prog 199 ⟨.st [⟨0, 1, false⟩, ⟨1, 3, true⟩], 4, 64, [.d (.v (.string ⟨#[]⟩)), .d (.v (.int .i64 0)), .d (.v (.string ⟨#[]⟩)), .nil]⟩ := by
  refine tiok_of (z := (.agg #[.string ⟨#[]⟩, .int .i64 0, .string ⟨#[]⟩, .slice none 0 0] : Value)) (by kernel_rfl) (by kernel_rfl) (by kernel_rfl) (by simp [ZsOk, ZOk, sc, Value.cells]) rfl (by decide) ?_ ?_ ?_
  · exact fun h => (by cases h)
  · exact fun _ => ⟨_, rfl⟩
  · refine ⟨_, Try.underlying199, ?_⟩
    refine ⟨⟨rfl, by kernel_rfl, by decide, fun h => (by cases h), fun _ => ⟨rfl, _, Try.underlying9, fun q h => (by cases h), fun n e h => (by cases h)⟩, exists_of_isSome (by kernel_rfl)⟩, ?_⟩
    refine ⟨⟨rfl, by kernel_rfl, by decide, fun _ => ⟨_, Try.underlying35⟩, fun h => (by cases h), exists_of_isSome (by kernel_rfl)⟩, ?_⟩
    trivial
theorem tyOk205 : TIOk Try.prog 205 ⟨.st [⟨0, 1, false⟩, ⟨1, 1, false⟩, ⟨2, 1, false⟩, ⟨3, 1, false⟩], 4, 40, [.d (.v (.pointer none)), .d (.v (.pointer none)), .d (.v (.pointer none)), .d (.v (.string ⟨#[]⟩))]⟩ := by
  refine tiok_of (z := (.agg #[.pointer none, .pointer none, .pointer none, .string ⟨#[]⟩] : Value)) (by kernel_rfl) (by kernel_rfl) (by kernel_rfl) (by simp [ZsOk, ZOk, sc, Value.cells]) rfl (by decide) ?_ ?_ ?_
  · exact fun h => (by cases h)
  · exact fun _ => ⟨_, rfl⟩
  · refine ⟨_, Try.underlying205, ?_⟩
    refine ⟨⟨rfl, by kernel_rfl, by decide, fun h => (by cases h), fun _ => ⟨rfl, _, Try.underlying17, fun q h => (by cases h), fun n e h => (by cases h)⟩, exists_of_isSome (by kernel_rfl)⟩, ?_⟩
    refine ⟨⟨rfl, by kernel_rfl, by decide, fun h => (by cases h), fun _ => ⟨rfl, _, Try.underlying17, fun q h => (by cases h), fun n e h => (by cases h)⟩, exists_of_isSome (by kernel_rfl)⟩, ?_⟩
    refine ⟨⟨rfl, by kernel_rfl, by decide, fun h => (by cases h), fun _ => ⟨rfl, _, Try.underlying17, fun q h => (by cases h), fun n e h => (by cases h)⟩, exists_of_isSome (by kernel_rfl)⟩, ?_⟩
    refine ⟨⟨rfl, by kernel_rfl, by decide, fun h => (by cases h), fun _ => ⟨rfl, _, Try.underlying9, fun q h => (by cases h), fun n e h => (by cases h)⟩, exists_of_isSome (by kernel_rfl)⟩, ?_⟩
    trivial
theorem tyOk206 : TIOk Try.prog 206 ⟨.st [⟨0, 1, false⟩, ⟨1, 1, false⟩, ⟨2, 1, false⟩, ⟨3, 1, false⟩], 4, 40, [.d (.v (.pointer none)), .d (.v (.pointer none)), .d (.v (.pointer none)), .d (.v (.string ⟨#[]⟩))]⟩ := by
  refine tiok_of (z := (.agg #[.pointer none, .pointer none, .pointer none, .string ⟨#[]⟩] : Value)) (by kernel_rfl) (by kernel_rfl) (by kernel_rfl) (by simp [ZsOk, ZOk, sc, Value.cells]) rfl (by decide) ?_ ?_ ?_
  · exact fun h => (by cases h)
  · exact fun _ => ⟨_, rfl⟩
  · refine ⟨_, Try.underlying206, ?_⟩
    refine ⟨⟨rfl, by kernel_rfl, by decide, fun h => (by cases h), fun _ => ⟨rfl, _, Try.underlying17, fun q h => (by cases h), fun n e h => (by cases h)⟩, exists_of_isSome (by kernel_rfl)⟩, ?_⟩
    refine ⟨⟨rfl, by kernel_rfl, by decide, fun h => (by cases h), fun _ => ⟨rfl, _, Try.underlying17, fun q h => (by cases h), fun n e h => (by cases h)⟩, exists_of_isSome (by kernel_rfl)⟩, ?_⟩
    refine ⟨⟨rfl, by kernel_rfl, by decide, fun h => (by cases h), fun _ => ⟨rfl, _, Try.underlying17, fun q h => (by cases h), fun n e h => (by cases h)⟩, exists_of_isSome (by kernel_rfl)⟩, ?_⟩
    refine ⟨⟨rfl, by kernel_rfl, by decide, fun h => (by cases h), fun _ => ⟨rfl, _, Try.underlying9, fun q h => (by cases h), fun n e h => (by cases h)⟩, exists_of_isSome (by kernel_rfl)⟩, ?_⟩
    trivial
theorem tyOk211 : TIOk Try.prog 211 ⟨.one, 1, 4, [.d (.v (.int .u32 0))]⟩ := by
  refine tiok_of (z := (.int .u32 0 : Value)) (by kernel_rfl) (by kernel_rfl) (by kernel_rfl) (by simp [ZsOk, ZOk, sc, Value.cells]) rfl (by decide) ?_ ?_ ?_
  · exact fun _ => ⟨_, rfl, rfl⟩
  · exact fun h => (by cases h)
  · exact ⟨rfl, _, Try.underlying211, fun q h => (by cases h), fun n e h => (by cases h)⟩
theorem tyOk212 : TIOk Try.prog 212 ⟨.one, 1, 1, [.d (.v (.int .u8 0))]⟩ := by
  refine tiok_of (z := (.int .u8 0 : Value)) (by kernel_rfl) (by kernel_rfl) (by kernel_rfl) (by simp [ZsOk, ZOk, sc, Value.cells]) rfl (by decide) ?_ ?_ ?_
  · exact fun _ => ⟨_, rfl, rfl⟩
  · exact fun h => (by cases h)
  · exact ⟨rfl, _, Try.underlying212, fun q h => (by cases h), fun n e h => (by cases h)⟩
theorem tyOk213 : TIOk Try.prog 213 ⟨.one, 1, 1, [.d (.v (.int .u8 0))]⟩ := by
  refine tiok_of (z := (.int .u8 0 : Value)) (by kernel_rfl) (by kernel_rfl) (by kernel_rfl) (by simp [ZsOk, ZOk, sc, Value.cells]) rfl (by decide) ?_ ?_ ?_
  · exact fun _ => ⟨_, rfl, rfl⟩
  · exact fun h => (by cases h)
  · exact ⟨rfl, _, Try.underlying213, fun q h => (by cases h), fun n e h => (by cases h)⟩
theorem tyOk216 : TIOk Try.prog 216 ⟨.one, 1, 4, [.d (.v (.int .i32 0))]⟩ := by
  refine tiok_of (z := (.int .i32 0 : Value)) (by kernel_rfl) (by kernel_rfl) (by kernel_rfl) (by simp [ZsOk, ZOk, sc, Value.cells]) rfl (by decide) ?_ ?_ ?_
  · exact fun _ => ⟨_, rfl, rfl⟩
  · exact fun h => (by cases h)
  · exact ⟨rfl, _, Try.underlying216, fun q h => (by cases h), fun n e h => (by cases h)⟩
theorem tyOk217 : TIOk Try.prog 217 ⟨.one, 1, 4, [.d (.v (.int .i32 0))]⟩ := by
  refine tiok_of (z := (.int .i32 0 : Value)) (by kernel_rfl) (by kernel_rfl) (by kernel_rfl) (by simp [ZsOk, ZOk, sc, Value.cells]) rfl (by decide) ?_ ?_ ?_
  · exact fun _ => ⟨_, rfl, rfl⟩
  · exact fun h => (by cases h)
  · exact ⟨rfl, _, Try.underlying217, fun q h => (by cases h), fun n e h => (by cases h)⟩
theorem tyOk218 : TIOk Try.prog 218 ⟨.st [⟨0, 1, false⟩, ⟨1, 1, false⟩, ⟨2, 1, false⟩, ⟨3, 1, false⟩, ⟨4, 1, false⟩, ⟨5, 1, false⟩, ⟨6, 1, false⟩, ⟨7, 1, false⟩, ⟨8, 1, false⟩, ⟨9, 1, false⟩, ⟨10, 1, false⟩], 11, 48, [.d (.v (.int .u64 0)), .d (.v (.int .u64 0)), .d (.v (.int .u32 0)), .d (.v (.int .u8 0)), .d (.v (.int .u8 0)), .d (.v (.int .u8 0)), .d (.v (.int .u8 0)), .d (.v .nilFunc), .d (.v (.pointer none)), .d (.v (.int .i32 0)), .d (.v (.int .i32 0))]⟩ := by
  refine tiok_of (z := (.agg #[.int .u64 0, .int .u64 0, .int .u32 0, .int .u8 0, .int .u8 0, .int .u8 0, .int .u8 0, .nilFunc, .pointer none, .int .i32 0, .int .i32 0] : Value)) (by kernel_rfl) (by kernel_rfl) (by kernel_rfl) (by simp [ZsOk, ZOk, sc, Value.cells]) rfl (by decide) ?_ ?_ ?_
  · exact fun h => (by cases h)
  · exact fun _ => ⟨_, rfl⟩
  · refine ⟨_, Try.underlying218, ?_⟩
    refine ⟨⟨rfl, by kernel_rfl, by decide, fun h => (by cases h), fun _ => ⟨rfl, _, Try.underlying12, fun q h => (by cases h), fun n e h => (by cases h)⟩, exists_of_isSome (by kernel_rfl)⟩, ?_⟩
    refine ⟨⟨rfl, by kernel_rfl, by decide, fun h => (by cases h), fun _ => ⟨rfl, _, Try.underlying12, fun q h => (by cases h), fun n e h => (by cases h)⟩, exists_of_isSome (by kernel_rfl)⟩, ?_⟩
    refine ⟨⟨rfl, by kernel_rfl, by decide, fun h => (by cases h), fun _ => ⟨rfl, _, Try.underlying211, fun q h => (by cases h), fun n e h => (by cases h)⟩, exists_of_isSome (by kernel_rfl)⟩, ?_⟩
    refine ⟨⟨rfl, by kernel_rfl, by decide, fun h => (by cases h), fun _ => ⟨rfl, _, Try.underlying212, fun q h => (by cases h), fun n e h => (by cases h)⟩, exists_of_isSome (by kernel_rfl)⟩, ?_⟩
    refine ⟨⟨rfl, by kernel_rfl, by decide, fun h => (by cases h), fun _ => ⟨rfl, _, Try.underlying5, fun q h => (by cases h), fun n e h => (by cases h)⟩, exists_of_isSome (by kernel_rfl)⟩, ?_⟩
    refine ⟨⟨rfl, by kernel_rfl, by decide, fun h => (by cases h), fun _ => ⟨rfl, _, Try.underlying5, fun q h => (by cases h), fun n e h => (by cases h)⟩, exists_of_isSome (by kernel_rfl)⟩, ?_⟩
    refine ⟨⟨rfl, by kernel_rfl, by decide, fun h => (by cases h), fun _ => ⟨rfl, _, Try.underlying213, fun q h => (by cases h), fun n e h => (by cases h)⟩, exists_of_isSome (by kernel_rfl)⟩, ?_⟩
    refine ⟨⟨rfl, by kernel_rfl, by decide, fun h => (by cases h), fun _ => ⟨rfl, _, Try.underlying214, fun q h => (by cases h), fun n e h => (by cases h)⟩, exists_of_isSome (by kernel_rfl)⟩, ?_⟩
    refine ⟨⟨rfl, by kernel_rfl, by decide, fun h => (by cases h), fun _ => ⟨rfl, _, Try.underlying215, fun q h => (by cases h), fun n e h => (by cases h)⟩, exists_of_isSome (by kernel_rfl)⟩, ?_⟩
    refine ⟨⟨rfl, by kernel_rfl, by decide, fun h => (by cases h), fun _ => ⟨rfl, _, Try.underlying216, fun q h => (by cases h), fun n e h => (by cases h)⟩, exists_of_isSome (by kernel_rfl)⟩, ?_⟩
    refine ⟨⟨rfl, by kernel_rfl, by decide, fun h => (by cases h), fun _ => ⟨rfl, _, Try.underlying217, fun q h => (by cases h), fun n e h => (by cases h)⟩, exists_of_isSome (by kernel_rfl)⟩, ?_⟩
    trivial
theorem tyOk219 : TIOk Try.prog 219 ⟨.st [⟨0, 1, false⟩, ⟨1, 1, false⟩, ⟨2, 1, false⟩, ⟨3, 1, false⟩, ⟨4, 1, false⟩, ⟨5, 1, false⟩, ⟨6, 1, false⟩, ⟨7, 1, false⟩, ⟨8, 1, false⟩, ⟨9, 1, false⟩, ⟨10, 1, false⟩], 11, 48, [.d (.v (.int .u64 0)), .d (.v (.int .u64 0)), .d (.v (.int .u32 0)), .d (.v (.int .u8 0)), .d (.v (.int .u8 0)), .d (.v (.int .u8 0)), .d (.v (.int .u8 0)), .d (.v .nilFunc), .d (.v (.pointer none)), .d (.v (.int .i32 0)), .d (.v (.int .i32 0))]⟩ := by
  refine tiok_of (z := (.agg #[.int .u64 0, .int .u64 0, .int .u32 0, .int .u8 0, .int .u8 0, .int .u8 0, .int .u8 0, .nilFunc, .pointer none, .int .i32 0, .int .i32 0] : Value)) (by kernel_rfl) (by kernel_rfl) (by kernel_rfl) (by simp [ZsOk, ZOk, sc, Value.cells]) rfl (by decide) ?_ ?_ ?_
  · exact fun h => (by cases h)
  · exact fun _ => ⟨_, rfl⟩
  · refine ⟨_, Try.underlying219, ?_⟩
    refine ⟨⟨rfl, by kernel_rfl, by decide, fun h => (by cases h), fun _ => ⟨rfl, _, Try.underlying12, fun q h => (by cases h), fun n e h => (by cases h)⟩, exists_of_isSome (by kernel_rfl)⟩, ?_⟩
    refine ⟨⟨rfl, by kernel_rfl, by decide, fun h => (by cases h), fun _ => ⟨rfl, _, Try.underlying12, fun q h => (by cases h), fun n e h => (by cases h)⟩, exists_of_isSome (by kernel_rfl)⟩, ?_⟩
    refine ⟨⟨rfl, by kernel_rfl, by decide, fun h => (by cases h), fun _ => ⟨rfl, _, Try.underlying211, fun q h => (by cases h), fun n e h => (by cases h)⟩, exists_of_isSome (by kernel_rfl)⟩, ?_⟩
    refine ⟨⟨rfl, by kernel_rfl, by decide, fun h => (by cases h), fun _ => ⟨rfl, _, Try.underlying212, fun q h => (by cases h), fun n e h => (by cases h)⟩, exists_of_isSome (by kernel_rfl)⟩, ?_⟩
    refine ⟨⟨rfl, by kernel_rfl, by decide, fun h => (by cases h), fun _ => ⟨rfl, _, Try.underlying5, fun q h => (by cases h), fun n e h => (by cases h)⟩, exists_of_isSome (by kernel_rfl)⟩, ?_⟩
    refine ⟨⟨rfl, by kernel_rfl, by decide, fun h => (by cases h), fun _ => ⟨rfl, _, Try.underlying5, fun q h => (by cases h), fun n e h => (by cases h)⟩, exists_of_isSome (by kernel_rfl)⟩, ?_⟩
    refine ⟨⟨rfl, by kernel_rfl, by decide, fun h => (by cases h), fun _ => ⟨rfl, _, Try.underlying213, fun q h => (by cases h), fun n e h => (by cases h)⟩, exists_of_isSome (by kernel_rfl)⟩, ?_⟩
    refine ⟨⟨rfl, by kernel_rfl, by decide, fun h => (by cases h), fun _ => ⟨rfl, _, Try.underlying214, fun q h => (by cases h), fun n e h => (by cases h)⟩, exists_of_isSome (by kernel_rfl)⟩, ?_⟩
    refine ⟨⟨rfl, by kernel_rfl, by decide, fun h => (by cases h), fun _ => ⟨rfl, _, Try.underlying215, fun q h => (by cases h), fun n e h => (by cases h)⟩, exists_of_isSome (by kernel_rfl)⟩, ?_⟩
    refine ⟨⟨rfl, by kernel_rfl, by decide, fun h => (by cases h), fun _ => ⟨rfl, _, Try.underlying216, fun q h => (by cases h), fun n e h => (by cases h)⟩, exists_of_isSome (by kernel_rfl)⟩, ?_⟩
    refine ⟨⟨rfl, by kernel_rfl, by decide, fun h => (by cases h), fun _ => ⟨rfl, _, Try.underlying217, fun q h => (by cases h), fun n e h => (by cases h)⟩, exists_of_isSome (by kernel_rfl)⟩, ?_⟩
    trivial
theorem tyOk : TOk Try.prog ty := by
  intro t i h
  unfold ty at h
  split at h
  · cases h; exact tyOk2
  · cases h; exact tyOk3
  · cases h; exact tyOk4
  · cases h; exact tyOk5
  · cases h; exact tyOk6
  · cases h; exact tyOk7
  · cases h; exact tyOk8
  · cases h; exact tyOk9
  · cases h; exact tyOk10
  · cases h; exact tyOk11
  · cases h; exact tyOk12
  · cases h; exact tyOk13
  · cases h; exact tyOk14
  · cases h; exact tyOk18
  · cases h; exact tyOk19
  · cases h; exact tyOk21
  · cases h; exact tyOk22
  · cases h; exact tyOk23
  · cases h; exact tyOk24
  · cases h; exact tyOk27
  · cases h; exact tyOk28
  · cases h; exact tyOk29
  · cases h; exact tyOk33
  · cases h; exact tyOk34
  · cases h; exact tyOk35
  · cases h; exact tyOk36
  · cases h; exact tyOk37
  · cases h; exact tyOk40
  · cases h; exact tyOk41
  · cases h; exact tyOk42
  · cases h; exact tyOk43
  · cases h; exact tyOk44
  · cases h; exact tyOk48
  · cases h; exact tyOk53
  · cases h; exact tyOk54
  · cases h; exact tyOk55
  · cases h; exact tyOk56
  · cases h; exact tyOk57
  · cases h; exact tyOk60
  · cases h; exact tyOk63
  · cases h; exact tyOk73
  · cases h; exact tyOk74
  · cases h; exact tyOk75
  · cases h; exact tyOk77
  · cases h; exact tyOk78
  · cases h; exact tyOk79
  · cases h; exact tyOk90
  · cases h; exact tyOk91
  · cases h; exact tyOk93
  · cases h; exact tyOk94
  · cases h; exact tyOk111
  · cases h; exact tyOk112
  · cases h; exact tyOk124
  · cases h; exact tyOk125
  · cases h; exact tyOk126
  · cases h; exact tyOk135
  · cases h; exact tyOk136
  · cases h; exact tyOk141
  · cases h; exact tyOk153
  · cases h; exact tyOk161
  · cases h; exact tyOk162
  · cases h; exact tyOk163
  · cases h; exact tyOk182
  · cases h; exact tyOk188
  · cases h; exact tyOk189
  · cases h; exact tyOk198
  · cases h; exact tyOk199
  · cases h; exact tyOk205
  · cases h; exact tyOk206
  · cases h; exact tyOk211
  · cases h; exact tyOk212
  · cases h; exact tyOk213
  · cases h; exact tyOk216
  · cases h; exact tyOk217
  · cases h; exact tyOk218
  · cases h; exact tyOk219
  · cases h
end Go.Proofs.Ytfmllefmfhefpaa
