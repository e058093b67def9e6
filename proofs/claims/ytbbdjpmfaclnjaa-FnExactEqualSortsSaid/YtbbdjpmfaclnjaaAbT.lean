/- The types of this seat, as the generator asks for them. Printed by types.py. -/
import Derived.Test.YtbbdjpmfaclnjaaProg
import Derived.Test.YtbbdjpmfaclnjaaAbS
import Derived.KernelRfl
namespace Go.Proofs.Ytbbdjpmfaclnjaa
open Go Go.Ab
set_option linter.unusedVariables false
set_option linter.unusedSimpArgs false
theorem exists_of_isSome {α : Type} {o : Option α} (h : o.isSome = true) : ∃ z, o = some z := Option.isSome_iff_exists.1 h
theorem tiok_of {P : Program} {t : Nat} {i : TI} {z : Value} (hs : (P.info? t).map (·.size) = some i.sz) (hb : (P.info? t).map (·.bytes) = some i.bytes)
    (hz : (P.info? t).bind (·.zero) = some z) (h1 : ZsOk z.cells.toList i.zero) (h2 : z.cells.size = i.sz) (h3 : i.sz ≠ 0)
    (h4 : i.ag = false → ∃ x, z.cells = #[x] ∧ x = z) (h5 : i.ag = true → ∃ cs, z = .agg cs) (h6 : KOk P t i.sz i.k) : TIOk P t i := by
  cases e : P.info? t with
  | none => rw [e] at hs; cases hs
  | some f =>
    rw [e] at hs hb hz
    simp only [Option.map_some, Option.some.injEq, Option.bind_some] at hs hb hz
    exact ⟨f, z, e, hs, hb, hz, h1, h2, h3, h4, h5, h6⟩
def ty : Ty
  | 2 => some ⟨.one, 1, 8, [.d (.v (.int .i64 0))]⟩
  | 3 => some ⟨.one, 1, 8, [.d (.v (.int .i64 0))]⟩
  | 4 => some ⟨.boo, 1, 1, [.d (.v (.bool false))]⟩
  | 5 => some ⟨.one, 1, 1, [.d (.v (.int .u8 0))]⟩
  | 6 => some ⟨.one, 1, 1, [.d (.v (.int .u8 0))]⟩
  | 7 => some ⟨.st [⟨0, 1, false⟩, ⟨1, 1, false⟩, ⟨2, 1, false⟩, ⟨3, 1, false⟩], 4, 24, [.d (.v (.int .i64 0)), .d (.v (.int .i64 0)), .d (.v (.bool false)), .d (.v (.int .u8 0))]⟩
  | 8 => some ⟨.st [⟨0, 1, false⟩, ⟨1, 1, false⟩, ⟨2, 1, false⟩, ⟨3, 1, false⟩], 4, 24, [.d (.v (.int .i64 0)), .d (.v (.int .i64 0)), .d (.v (.bool false)), .d (.v (.int .u8 0))]⟩
  | 9 => some ⟨.str, 1, 16, [.d (.v (.string ⟨#[]⟩))]⟩
  | 10 => some ⟨.str, 1, 16, [.d (.v (.string ⟨#[]⟩))]⟩
  | 11 => some ⟨.str, 1, 16, [.d (.v (.string ⟨#[]⟩))]⟩
  | 12 => some ⟨.one, 1, 8, [.d (.v (.int .u64 0))]⟩
  | 13 => some ⟨.st [⟨0, 1, false⟩, ⟨1, 1, false⟩], 2, 24, [.d (.v (.string ⟨#[]⟩)), .d (.v (.int .u64 0))]⟩
  | 14 => some ⟨.st [⟨0, 1, false⟩, ⟨1, 1, false⟩], 2, 24, [.d (.v (.string ⟨#[]⟩)), .d (.v (.int .u64 0))]⟩
  | 18 => some ⟨.st [⟨0, 1, false⟩], 1, 8, [.d (.v (.pointer none))]⟩
  | 19 => some ⟨.st [⟨0, 1, false⟩], 1, 8, [.d (.v (.pointer none))]⟩
  | 21 => some ⟨.one, 1, 4, [.d (.v (.int .i32 0))]⟩
  | 24 => some ⟨.slc 26, 1, 24, [.nil]⟩
  | 25 => some ⟨.st [⟨0, 1, false⟩, ⟨1, 1, false⟩, ⟨2, 1, false⟩], 3, 48, [.d (.v (.int .i64 0)), .d (.v (.string ⟨#[]⟩)), .nil]⟩
  | 26 => some ⟨.st [⟨0, 1, false⟩, ⟨1, 1, false⟩, ⟨2, 1, false⟩], 3, 48, [.d (.v (.int .i64 0)), .d (.v (.string ⟨#[]⟩)), .nil]⟩
  | 29 => some ⟨.slc 31, 1, 24, [.nil]⟩
  | 30 => some ⟨.st [⟨0, 1, false⟩, ⟨1, 1, false⟩, ⟨2, 1, false⟩], 3, 48, [.d (.v (.int .i64 0)), .d (.v (.string ⟨#[]⟩)), .nil]⟩
  | 31 => some ⟨.st [⟨0, 1, false⟩, ⟨1, 1, false⟩, ⟨2, 1, false⟩], 3, 48, [.d (.v (.int .i64 0)), .d (.v (.string ⟨#[]⟩)), .nil]⟩
  | 37 => some ⟨.slc 9, 1, 24, [.nil]⟩
  | 42 => some ⟨.slc 3, 1, 24, [.nil]⟩
  | 43 => some ⟨.slc 42, 1, 24, [.nil]⟩
  | 44 => some ⟨.st [⟨0, 1, false⟩, ⟨1, 1, false⟩, ⟨2, 1, false⟩, ⟨3, 1, false⟩, ⟨4, 1, false⟩, ⟨5, 1, false⟩, ⟨6, 1, false⟩], 7, 152, [.nil, .nil, .nil, .nil, .nil, .nil, .d (.v (.int .i64 0))]⟩
  | 45 => some ⟨.st [⟨0, 1, false⟩, ⟨1, 1, false⟩, ⟨2, 1, false⟩, ⟨3, 1, false⟩, ⟨4, 1, false⟩, ⟨5, 1, false⟩, ⟨6, 1, false⟩], 7, 152, [.nil, .nil, .nil, .nil, .nil, .nil, .d (.v (.int .i64 0))]⟩
  | 48 => some ⟨.st [⟨0, 1, false⟩, ⟨1, 1, false⟩, ⟨2, 1, false⟩, ⟨3, 1, false⟩, ⟨4, 1, false⟩, ⟨5, 1, false⟩, ⟨6, 1, false⟩], 7, 152, [.nil, .nil, .nil, .nil, .nil, .nil, .d (.v (.int .i64 0))]⟩
  | _ => none
@[go_sem] theorem ty2 : ty 2 = some ⟨.one, 1, 8, [.d (.v (.int .i64 0))]⟩ := rfl
@[go_sem] theorem ty3 : ty 3 = some ⟨.one, 1, 8, [.d (.v (.int .i64 0))]⟩ := rfl
@[go_sem] theorem ty4 : ty 4 = some ⟨.boo, 1, 1, [.d (.v (.bool false))]⟩ := rfl
@[go_sem] theorem ty5 : ty 5 = some ⟨.one, 1, 1, [.d (.v (.int .u8 0))]⟩ := rfl
@[go_sem] theorem ty6 : ty 6 = some ⟨.one, 1, 1, [.d (.v (.int .u8 0))]⟩ := rfl
@[go_sem] theorem ty7 : ty 7 = some ⟨.st [⟨0, 1, false⟩, ⟨1, 1, false⟩, ⟨2, 1, false⟩, ⟨3, 1, false⟩], 4, 24, [.d (.v (.int .i64 0)), .d (.v (.int .i64 0)), .d (.v (.bool false)), .d (.v (.int .u8 0))]⟩ := rfl
@[go_sem] theorem ty8 : ty 8 = some ⟨.st [⟨0, 1, false⟩, ⟨1, 1, false⟩, ⟨2, 1, false⟩, ⟨3, 1, false⟩], 4, 24, [.d (.v (.int .i64 0)), .d (.v (.int .i64 0)), .d (.v (.bool false)), .d (.v (.int .u8 0))]⟩ := rfl
@[go_sem] theorem ty9 : ty 9 = some ⟨.str, 1, 16, [.d (.v (.string ⟨#[]⟩))]⟩ := rfl
@[go_sem] theorem ty10 : ty 10 = some ⟨.str, 1, 16, [.d (.v (.string ⟨#[]⟩))]⟩ := rfl
@[go_sem] theorem ty11 : ty 11 = some ⟨.str, 1, 16, [.d (.v (.string ⟨#[]⟩))]⟩ := rfl
@[go_sem] theorem ty12 : ty 12 = some ⟨.one, 1, 8, [.d (.v (.int .u64 0))]⟩ := rfl
@[go_sem] theorem ty13 : ty 13 = some ⟨.st [⟨0, 1, false⟩, ⟨1, 1, false⟩], 2, 24, [.d (.v (.string ⟨#[]⟩)), .d (.v (.int .u64 0))]⟩ := rfl
@[go_sem] theorem ty14 : ty 14 = some ⟨.st [⟨0, 1, false⟩, ⟨1, 1, false⟩], 2, 24, [.d (.v (.string ⟨#[]⟩)), .d (.v (.int .u64 0))]⟩ := rfl
@[go_sem] theorem ty18 : ty 18 = some ⟨.st [⟨0, 1, false⟩], 1, 8, [.d (.v (.pointer none))]⟩ := rfl
@[go_sem] theorem ty19 : ty 19 = some ⟨.st [⟨0, 1, false⟩], 1, 8, [.d (.v (.pointer none))]⟩ := rfl
@[go_sem] theorem ty21 : ty 21 = some ⟨.one, 1, 4, [.d (.v (.int .i32 0))]⟩ := rfl
@[go_sem] theorem ty24 : ty 24 = some ⟨.slc 26, 1, 24, [.nil]⟩ := rfl
@[go_sem] theorem ty25 : ty 25 = some ⟨.st [⟨0, 1, false⟩, ⟨1, 1, false⟩, ⟨2, 1, false⟩], 3, 48, [.d (.v (.int .i64 0)), .d (.v (.string ⟨#[]⟩)), .nil]⟩ := rfl
@[go_sem] theorem ty26 : ty 26 = some ⟨.st [⟨0, 1, false⟩, ⟨1, 1, false⟩, ⟨2, 1, false⟩], 3, 48, [.d (.v (.int .i64 0)), .d (.v (.string ⟨#[]⟩)), .nil]⟩ := rfl
@[go_sem] theorem ty29 : ty 29 = some ⟨.slc 31, 1, 24, [.nil]⟩ := rfl
@[go_sem] theorem ty30 : ty 30 = some ⟨.st [⟨0, 1, false⟩, ⟨1, 1, false⟩, ⟨2, 1, false⟩], 3, 48, [.d (.v (.int .i64 0)), .d (.v (.string ⟨#[]⟩)), .nil]⟩ := rfl
@[go_sem] theorem ty31 : ty 31 = some ⟨.st [⟨0, 1, false⟩, ⟨1, 1, false⟩, ⟨2, 1, false⟩], 3, 48, [.d (.v (.int .i64 0)), .d (.v (.string ⟨#[]⟩)), .nil]⟩ := rfl
@[go_sem] theorem ty37 : ty 37 = some ⟨.slc 9, 1, 24, [.nil]⟩ := rfl
@[go_sem] theorem ty42 : ty 42 = some ⟨.slc 3, 1, 24, [.nil]⟩ := rfl
@[go_sem] theorem ty43 : ty 43 = some ⟨.slc 42, 1, 24, [.nil]⟩ := rfl
@[go_sem] theorem ty44 : ty 44 = some ⟨.st [⟨0, 1, false⟩, ⟨1, 1, false⟩, ⟨2, 1, false⟩, ⟨3, 1, false⟩, ⟨4, 1, false⟩, ⟨5, 1, false⟩, ⟨6, 1, false⟩], 7, 152, [.nil, .nil, .nil, .nil, .nil, .nil, .d (.v (.int .i64 0))]⟩ := rfl
@[go_sem] theorem ty45 : ty 45 = some ⟨.st [⟨0, 1, false⟩, ⟨1, 1, false⟩, ⟨2, 1, false⟩, ⟨3, 1, false⟩, ⟨4, 1, false⟩, ⟨5, 1, false⟩, ⟨6, 1, false⟩], 7, 152, [.nil, .nil, .nil, .nil, .nil, .nil, .d (.v (.int .i64 0))]⟩ := rfl
@[go_sem] theorem ty48 : ty 48 = some ⟨.st [⟨0, 1, false⟩, ⟨1, 1, false⟩, ⟨2, 1, false⟩, ⟨3, 1, false⟩, ⟨4, 1, false⟩, ⟨5, 1, false⟩, ⟨6, 1, false⟩], 7, 152, [.nil, .nil, .nil, .nil, .nil, .nil, .d (.v (.int .i64 0))]⟩ := rfl
theorem tyOk2 : TIOk Try.prog 2 ⟨.one, 1, 8, [.d (.v (.int .i64 0))]⟩ := by
  refine tiok_of (z := (.int .i64 0 : Value)) (by kernel_rfl) (by kernel_rfl) (by kernel_rfl) (by simp [ZsOk, ZOk, sc, Value.cells]) rfl (by decide) ?_ ?_ ?_
  · exact fun _ => ⟨_, rfl, rfl⟩
  · exact fun h => (by cases h)
  · exact ⟨rfl, _, Try.underlying2, fun q h => (by cases h), fun n e h => (by cases h)⟩
theorem tyOk3 : TIOk Try.prog 3 ⟨.one, 1, 8, [.d (.v (.int .i64 0))]⟩ := by
  refine tiok_of (z := (.int .i64 0 : Value)) (by kernel_rfl) (by kernel_rfl) (by kernel_rfl) (by simp [ZsOk, ZOk, sc, Value.cells]) rfl (by decide) ?_ ?_ ?_
  · exact fun _ => ⟨_, rfl, rfl⟩
  · exact fun h => (by cases h)
  · exact ⟨rfl, _, Try.underlying3, fun q h => (by cases h), fun n e h => (by cases h)⟩
theorem tyOk4 : TIOk Try.prog 4 ⟨.boo, 1, 1, [.d (.v (.bool false))]⟩ := by
  refine tiok_of (z := (.bool false : Value)) (by kernel_rfl) (by kernel_rfl) (by kernel_rfl) (by simp [ZsOk, ZOk, sc, Value.cells]) rfl (by decide) ?_ ?_ ?_
  · exact fun _ => ⟨_, rfl, rfl⟩
  · exact fun h => (by cases h)
  · exact ⟨rfl, Try.underlying4⟩
theorem tyOk5 : TIOk Try.prog 5 ⟨.one, 1, 1, [.d (.v (.int .u8 0))]⟩ := by
  refine tiok_of (z := (.int .u8 0 : Value)) (by kernel_rfl) (by kernel_rfl) (by kernel_rfl) (by simp [ZsOk, ZOk, sc, Value.cells]) rfl (by decide) ?_ ?_ ?_
  · exact fun _ => ⟨_, rfl, rfl⟩
  · exact fun h => (by cases h)
  · exact ⟨rfl, _, Try.underlying5, fun q h => (by cases h), fun n e h => (by cases h)⟩
theorem tyOk6 : TIOk Try.prog 6 ⟨.one, 1, 1, [.d (.v (.int .u8 0))]⟩ := by
  refine tiok_of (z := (.int .u8 0 : Value)) (by kernel_rfl) (by kernel_rfl) (by kernel_rfl) (by simp [ZsOk, ZOk, sc, Value.cells]) rfl (by decide) ?_ ?_ ?_
  · exact fun _ => ⟨_, rfl, rfl⟩
  · exact fun h => (by cases h)
  · exact ⟨rfl, _, Try.underlying6, fun q h => (by cases h), fun n e h => (by cases h)⟩
theorem tyOk7 : TIOk Try.prog 7 ⟨.st [⟨0, 1, false⟩, ⟨1, 1, false⟩, ⟨2, 1, false⟩, ⟨3, 1, false⟩], 4, 24, [.d (.v (.int .i64 0)), .d (.v (.int .i64 0)), .d (.v (.bool false)), .d (.v (.int .u8 0))]⟩ := by
  refine tiok_of (z := (.agg #[.int .i64 0, .int .i64 0, .bool false, .int .u8 0] : Value)) (by kernel_rfl) (by kernel_rfl) (by kernel_rfl) (by simp [ZsOk, ZOk, sc, Value.cells]) rfl (by decide) ?_ ?_ ?_
  · exact fun h => (by cases h)
  · exact fun _ => ⟨_, rfl⟩
  · refine ⟨_, Try.underlying7, ?_⟩
    refine ⟨⟨rfl, by kernel_rfl, by decide, fun h => (by cases h), fun _ => ⟨rfl, _, Try.underlying2, fun q h => (by cases h), fun n e h => (by cases h)⟩, exists_of_isSome (by kernel_rfl)⟩, ?_⟩
    refine ⟨⟨rfl, by kernel_rfl, by decide, fun h => (by cases h), fun _ => ⟨rfl, _, Try.underlying3, fun q h => (by cases h), fun n e h => (by cases h)⟩, exists_of_isSome (by kernel_rfl)⟩, ?_⟩
    refine ⟨⟨rfl, by kernel_rfl, by decide, fun h => (by cases h), fun _ => ⟨rfl, _, Try.underlying4, fun q h => (by cases h), fun n e h => (by cases h)⟩, exists_of_isSome (by kernel_rfl)⟩, ?_⟩
    refine ⟨⟨rfl, by kernel_rfl, by decide, fun h => (by cases h), fun _ => ⟨rfl, _, Try.underlying6, fun q h => (by cases h), fun n e h => (by cases h)⟩, exists_of_isSome (by kernel_rfl)⟩, ?_⟩
    trivial
theorem tyOk8 : TIOk Try.prog 8 ⟨.st [⟨0, 1, false⟩, ⟨1, 1, false⟩, ⟨2, 1, false⟩, ⟨3, 1, false⟩], 4, 24, [.d (.v (.int .i64 0)), .d (.v (.int .i64 0)), .d (.v (.bool false)), .d (.v (.int .u8 0))]⟩ := by
  refine tiok_of (z := (.agg #[.int .i64 0, .int .i64 0, .bool false, .int .u8 0] : Value)) (by kernel_rfl) (by kernel_rfl) (by kernel_rfl) (by simp [ZsOk, ZOk, sc, Value.cells]) rfl (by decide) ?_ ?_ ?_
  · exact fun h => (by cases h)
  · exact fun _ => ⟨_, rfl⟩
  · refine ⟨_, Try.underlying8, ?_⟩
    refine ⟨⟨rfl, by kernel_rfl, by decide, fun h => (by cases h), fun _ => ⟨rfl, _, Try.underlying2, fun q h => (by cases h), fun n e h => (by cases h)⟩, exists_of_isSome (by kernel_rfl)⟩, ?_⟩
    refine ⟨⟨rfl, by kernel_rfl, by decide, fun h => (by cases h), fun _ => ⟨rfl, _, Try.underlying3, fun q h => (by cases h), fun n e h => (by cases h)⟩, exists_of_isSome (by kernel_rfl)⟩, ?_⟩
    refine ⟨⟨rfl, by kernel_rfl, by decide, fun h => (by cases h), fun _ => ⟨rfl, _, Try.underlying4, fun q h => (by cases h), fun n e h => (by cases h)⟩, exists_of_isSome (by kernel_rfl)⟩, ?_⟩
    refine ⟨⟨rfl, by kernel_rfl, by decide, fun h => (by cases h), fun _ => ⟨rfl, _, Try.underlying6, fun q h => (by cases h), fun n e h => (by cases h)⟩, exists_of_isSome (by kernel_rfl)⟩, ?_⟩
    trivial
theorem tyOk9 : TIOk Try.prog 9 ⟨.str, 1, 16, [.d (.v (.string ⟨#[]⟩))]⟩ := by
  refine tiok_of (z := (.string ⟨#[]⟩ : Value)) (by kernel_rfl) (by kernel_rfl) (by kernel_rfl) (by simp [ZsOk, ZOk, sc, Value.cells]) rfl (by decide) ?_ ?_ ?_
  · exact fun _ => ⟨_, rfl, rfl⟩
  · exact fun h => (by cases h)
  · exact ⟨rfl, Try.underlying9⟩
theorem tyOk10 : TIOk Try.prog 10 ⟨.str, 1, 16, [.d (.v (.string ⟨#[]⟩))]⟩ := by
  refine tiok_of (z := (.string ⟨#[]⟩ : Value)) (by kernel_rfl) (by kernel_rfl) (by kernel_rfl) (by simp [ZsOk, ZOk, sc, Value.cells]) rfl (by decide) ?_ ?_ ?_
  · exact fun _ => ⟨_, rfl, rfl⟩
  · exact fun h => (by cases h)
  · exact ⟨rfl, Try.underlying10⟩
theorem tyOk11 : TIOk Try.prog 11 ⟨.str, 1, 16, [.d (.v (.string ⟨#[]⟩))]⟩ := by
  refine tiok_of (z := (.string ⟨#[]⟩ : Value)) (by kernel_rfl) (by kernel_rfl) (by kernel_rfl) (by simp [ZsOk, ZOk, sc, Value.cells]) rfl (by decide) ?_ ?_ ?_
  · exact fun _ => ⟨_, rfl, rfl⟩
  · exact fun h => (by cases h)
  · exact ⟨rfl, Try.underlying11⟩
theorem tyOk12 : TIOk Try.prog 12 ⟨.one, 1, 8, [.d (.v (.int .u64 0))]⟩ := by
  refine tiok_of (z := (.int .u64 0 : Value)) (by kernel_rfl) (by kernel_rfl) (by kernel_rfl) (by simp [ZsOk, ZOk, sc, Value.cells]) rfl (by decide) ?_ ?_ ?_
  · exact fun _ => ⟨_, rfl, rfl⟩
  · exact fun h => (by cases h)
  · exact ⟨rfl, _, Try.underlying12, fun q h => (by cases h), fun n e h => (by cases h)⟩
theorem tyOk13 : TIOk Try.prog 13 ⟨.st [⟨0, 1, false⟩, ⟨1, 1, false⟩], 2, 24, [.d (.v (.string ⟨#[]⟩)), .d (.v (.int .u64 0))]⟩ := by
  refine tiok_of (z := (.agg #[.string ⟨#[]⟩, .int .u64 0] : Value)) (by kernel_rfl) (by kernel_rfl) (by kernel_rfl) (by simp [ZsOk, ZOk, sc, Value.cells]) rfl (by decide) ?_ ?_ ?_
  · exact fun h => (by cases h)
  · exact fun _ => ⟨_, rfl⟩
  · refine ⟨_, Try.underlying13, ?_⟩
    refine ⟨⟨rfl, by kernel_rfl, by decide, fun h => (by cases h), fun _ => ⟨rfl, _, Try.underlying9, fun q h => (by cases h), fun n e h => (by cases h)⟩, exists_of_isSome (by kernel_rfl)⟩, ?_⟩
    refine ⟨⟨rfl, by kernel_rfl, by decide, fun h => (by cases h), fun _ => ⟨rfl, _, Try.underlying12, fun q h => (by cases h), fun n e h => (by cases h)⟩, exists_of_isSome (by kernel_rfl)⟩, ?_⟩
    trivial
theorem tyOk14 : TIOk Try.prog 14 ⟨.st [⟨0, 1, false⟩, ⟨1, 1, false⟩], 2, 24, [.d (.v (.string ⟨#[]⟩)), .d (.v (.int .u64 0))]⟩ := by
  refine tiok_of (z := (.agg #[.string ⟨#[]⟩, .int .u64 0] : Value)) (by kernel_rfl) (by kernel_rfl) (by kernel_rfl) (by simp [ZsOk, ZOk, sc, Value.cells]) rfl (by decide) ?_ ?_ ?_
  · exact fun h => (by cases h)
  · exact fun _ => ⟨_, rfl⟩
  · refine ⟨_, Try.underlying14, ?_⟩
    refine ⟨⟨rfl, by kernel_rfl, by decide, fun h => (by cases h), fun _ => ⟨rfl, _, Try.underlying9, fun q h => (by cases h), fun n e h => (by cases h)⟩, exists_of_isSome (by kernel_rfl)⟩, ?_⟩
    refine ⟨⟨rfl, by kernel_rfl, by decide, fun h => (by cases h), fun _ => ⟨rfl, _, Try.underlying12, fun q h => (by cases h), fun n e h => (by cases h)⟩, exists_of_isSome (by kernel_rfl)⟩, ?_⟩
    trivial
theorem tyOk18 : TIOk Try.prog 18 ⟨.st [⟨0, 1, false⟩], 1, 8, [.d (.v (.pointer none))]⟩ := by
  refine tiok_of (z := (.agg #[.pointer none] : Value)) (by kernel_rfl) (by kernel_rfl) (by kernel_rfl) (by simp [ZsOk, ZOk, sc, Value.cells]) rfl (by decide) ?_ ?_ ?_
  · exact fun h => (by cases h)
  · exact fun _ => ⟨_, rfl⟩
  · refine ⟨_, Try.underlying18, ?_⟩
    refine ⟨⟨rfl, by kernel_rfl, by decide, fun h => (by cases h), fun _ => ⟨rfl, _, Try.underlying17, fun q h => (by cases h), fun n e h => (by cases h)⟩, exists_of_isSome (by kernel_rfl)⟩, ?_⟩
    trivial
theorem tyOk19 : TIOk Try.prog 19 ⟨.st [⟨0, 1, false⟩], 1, 8, [.d (.v (.pointer none))]⟩ := by
  refine tiok_of (z := (.agg #[.pointer none] : Value)) (by kernel_rfl) (by kernel_rfl) (by kernel_rfl) (by simp [ZsOk, ZOk, sc, Value.cells]) rfl (by decide) ?_ ?_ ?_
  · exact fun h => (by cases h)
  · exact fun _ => ⟨_, rfl⟩
  · refine ⟨_, Try.underlying19, ?_⟩
    refine ⟨⟨rfl, by kernel_rfl, by decide, fun h => (by cases h), fun _ => ⟨rfl, _, Try.underlying17, fun q h => (by cases h), fun n e h => (by cases h)⟩, exists_of_isSome (by kernel_rfl)⟩, ?_⟩
    trivial
theorem tyOk21 : TIOk Try.prog 21 ⟨.one, 1, 4, [.d (.v (.int .i32 0))]⟩ := by
  refine tiok_of (z := (.int .i32 0 : Value)) (by kernel_rfl) (by kernel_rfl) (by kernel_rfl) (by simp [ZsOk, ZOk, sc, Value.cells]) rfl (by decide) ?_ ?_ ?_
  · exact fun _ => ⟨_, rfl, rfl⟩
  · exact fun h => (by cases h)
  · exact ⟨rfl, _, Try.underlying21, fun q h => (by cases h), fun n e h => (by cases h)⟩
theorem tyOk24 : TIOk Try.prog 24 ⟨.slc 26, 1, 24, [.nil]⟩ := by
  refine tiok_of (z := (.slice none 0 0 : Value)) (by kernel_rfl) (by kernel_rfl) (by kernel_rfl) (by simp [ZsOk, ZOk, sc, Value.cells]) rfl (by decide) ?_ ?_ ?_
  · exact fun _ => ⟨_, rfl, rfl⟩
  · exact fun h => (by cases h)
  · exact ⟨rfl, Try.underlying24⟩
theorem tyOk25 : TIOk Try.prog 25 ⟨.st [⟨0, 1, false⟩, ⟨1, 1, false⟩, ⟨2, 1, false⟩], 3, 48, [.d (.v (.int .i64 0)), .d (.v (.string ⟨#[]⟩)), .nil]⟩ := by
  refine tiok_of (z := (.agg #[.int .i64 0, .string ⟨#[]⟩, .slice none 0 0] : Value)) (by kernel_rfl) (by kernel_rfl) (by kernel_rfl) (by simp [ZsOk, ZOk, sc, Value.cells]) rfl (by decide) ?_ ?_ ?_
  · exact fun h => (by cases h)
  · exact fun _ => ⟨_, rfl⟩
  · refine ⟨_, Try.underlying25, ?_⟩
    refine ⟨⟨rfl, by kernel_rfl, by decide, fun h => (by cases h), fun _ => ⟨rfl, _, Try.underlying3, fun q h => (by cases h), fun n e h => (by cases h)⟩, exists_of_isSome (by kernel_rfl)⟩, ?_⟩
    refine ⟨⟨rfl, by kernel_rfl, by decide, fun h => (by cases h), fun _ => ⟨rfl, _, Try.underlying9, fun q h => (by cases h), fun n e h => (by cases h)⟩, exists_of_isSome (by kernel_rfl)⟩, ?_⟩
    refine ⟨⟨rfl, by kernel_rfl, by decide, fun h => (by cases h), fun _ => ⟨rfl, _, Try.underlying24, fun q h => (by cases h), fun n e h => (by cases h)⟩, exists_of_isSome (by kernel_rfl)⟩, ?_⟩
    trivial
theorem tyOk26 : TIOk Try.prog 26 ⟨.st [⟨0, 1, false⟩, ⟨1, 1, false⟩, ⟨2, 1, false⟩], 3, 48, [.d (.v (.int .i64 0)), .d (.v (.string ⟨#[]⟩)), .nil]⟩ := by
  refine tiok_of (z := (.agg #[.int .i64 0, .string ⟨#[]⟩, .slice none 0 0] : Value)) (by kernel_rfl) (by kernel_rfl) (by kernel_rfl) (by simp [ZsOk, ZOk, sc, Value.cells]) rfl (by decide) ?_ ?_ ?_
  · exact fun h => (by cases h)
  · exact fun _ => ⟨_, rfl⟩
  · refine ⟨_, Try.underlying26, ?_⟩
    refine ⟨⟨rfl, by kernel_rfl, by decide, fun h => (by cases h), fun _ => ⟨rfl, _, Try.underlying3, fun q h => (by cases h), fun n e h => (by cases h)⟩, exists_of_isSome (by kernel_rfl)⟩, ?_⟩
    refine ⟨⟨rfl, by kernel_rfl, by decide, fun h => (by cases h), fun _ => ⟨rfl, _, Try.underlying9, fun q h => (by cases h), fun n e h => (by cases h)⟩, exists_of_isSome (by kernel_rfl)⟩, ?_⟩
    refine ⟨⟨rfl, by kernel_rfl, by decide, fun h => (by cases h), fun _ => ⟨rfl, _, Try.underlying24, fun q h => (by cases h), fun n e h => (by cases h)⟩, exists_of_isSome (by kernel_rfl)⟩, ?_⟩
    trivial
theorem tyOk29 : TIOk Try.prog 29 ⟨.slc 31, 1, 24, [.nil]⟩ := by
  refine tiok_of (z := (.slice none 0 0 : Value)) (by kernel_rfl) (by kernel_rfl) (by kernel_rfl) (by simp [ZsOk, ZOk, sc, Value.cells]) rfl (by decide) ?_ ?_ ?_
  · exact fun _ => ⟨_, rfl, rfl⟩
  · exact fun h => (by cases h)
  · exact ⟨rfl, Try.underlying29⟩
theorem tyOk30 : TIOk Try.prog 30 ⟨.st [⟨0, 1, false⟩, ⟨1, 1, false⟩, ⟨2, 1, false⟩], 3, 48, [.d (.v (.int .i64 0)), .d (.v (.string ⟨#[]⟩)), .nil]⟩ := by
  refine tiok_of (z := (.agg #[.int .i64 0, .string ⟨#[]⟩, .slice none 0 0] : Value)) (by kernel_rfl) (by kernel_rfl) (by kernel_rfl) (by simp [ZsOk, ZOk, sc, Value.cells]) rfl (by decide) ?_ ?_ ?_
  · exact fun h => (by cases h)
  · exact fun _ => ⟨_, rfl⟩
  · refine ⟨_, Try.underlying30, ?_⟩
    refine ⟨⟨rfl, by kernel_rfl, by decide, fun h => (by cases h), fun _ => ⟨rfl, _, Try.underlying3, fun q h => (by cases h), fun n e h => (by cases h)⟩, exists_of_isSome (by kernel_rfl)⟩, ?_⟩
    refine ⟨⟨rfl, by kernel_rfl, by decide, fun h => (by cases h), fun _ => ⟨rfl, _, Try.underlying9, fun q h => (by cases h), fun n e h => (by cases h)⟩, exists_of_isSome (by kernel_rfl)⟩, ?_⟩
    refine ⟨⟨rfl, by kernel_rfl, by decide, fun h => (by cases h), fun _ => ⟨rfl, _, Try.underlying29, fun q h => (by cases h), fun n e h => (by cases h)⟩, exists_of_isSome (by kernel_rfl)⟩, ?_⟩
    trivial
theorem tyOk31 : TIOk Try.prog 31 ⟨.st [⟨0, 1, false⟩, ⟨1, 1, false⟩, ⟨2, 1, false⟩], 3, 48, [.d (.v (.int .i64 0)), .d (.v (.string ⟨#[]⟩)), .nil]⟩ := by
  refine tiok_of (z := (.agg #[.int .i64 0, .string ⟨#[]⟩, .slice none 0 0] : Value)) (by kernel_rfl) (by kernel_rfl) (by kernel_rfl) (by simp [ZsOk, ZOk, sc, Value.cells]) rfl (by decide) ?_ ?_ ?_
  · exact fun h => (by cases h)
  · exact fun _ => ⟨_, rfl⟩
  · refine ⟨_, Try.underlying31, ?_⟩
    refine ⟨⟨rfl, by kernel_rfl, by decide, fun h => (by cases h), fun _ => ⟨rfl, _, Try.underlying3, fun q h => (by cases h), fun n e h => (by cases h)⟩, exists_of_isSome (by kernel_rfl)⟩, ?_⟩
    refine ⟨⟨rfl, by kernel_rfl, by decide, fun h => (by cases h), fun _ => ⟨rfl, _, Try.underlying9, fun q h => (by cases h), fun n e h => (by cases h)⟩, exists_of_isSome (by kernel_rfl)⟩, ?_⟩
    refine ⟨⟨rfl, by kernel_rfl, by decide, fun h => (by cases h), fun _ => ⟨rfl, _, Try.underlying29, fun q h => (by cases h), fun n e h => (by cases h)⟩, exists_of_isSome (by kernel_rfl)⟩, ?_⟩
    trivial
theorem tyOk37 : TIOk Try.prog 37 ⟨.slc 9, 1, 24, [.nil]⟩ := by
  refine tiok_of (z := (.slice none 0 0 : Value)) (by kernel_rfl) (by kernel_rfl) (by kernel_rfl) (by simp [ZsOk, ZOk, sc, Value.cells]) rfl (by decide) ?_ ?_ ?_
  · exact fun _ => ⟨_, rfl, rfl⟩
  · exact fun h => (by cases h)
  · exact ⟨rfl, Try.underlying37⟩
theorem tyOk42 : TIOk Try.prog 42 ⟨.slc 3, 1, 24, [.nil]⟩ := by
  refine tiok_of (z := (.slice none 0 0 : Value)) (by kernel_rfl) (by kernel_rfl) (by kernel_rfl) (by simp [ZsOk, ZOk, sc, Value.cells]) rfl (by decide) ?_ ?_ ?_
  · exact fun _ => ⟨_, rfl, rfl⟩
  · exact fun h => (by cases h)
  · exact ⟨rfl, Try.underlying42⟩
theorem tyOk43 : TIOk Try.prog 43 ⟨.slc 42, 1, 24, [.nil]⟩ := by
  refine tiok_of (z := (.slice none 0 0 : Value)) (by kernel_rfl) (by kernel_rfl) (by kernel_rfl) (by simp [ZsOk, ZOk, sc, Value.cells]) rfl (by decide) ?_ ?_ ?_
  · exact fun _ => ⟨_, rfl, rfl⟩
  · exact fun h => (by cases h)
  · exact ⟨rfl, Try.underlying43⟩
theorem tyOk44 : TIOk Try.prog 44 ⟨.st [⟨0, 1, false⟩, ⟨1, 1, false⟩, ⟨2, 1, false⟩, ⟨3, 1, false⟩, ⟨4, 1, false⟩, ⟨5, 1, false⟩, ⟨6, 1, false⟩], 7, 152, [.nil, .nil, .nil, .nil, .nil, .nil, .d (.v (.int .i64 0))]⟩ := by
  refine tiok_of (z := (.agg #[.slice none 0 0, .slice none 0 0, .slice none 0 0, .slice none 0 0, .slice none 0 0, .slice none 0 0, .int .i64 0] : Value)) (by kernel_rfl) (by kernel_rfl) (by kernel_rfl) (by simp [ZsOk, ZOk, sc, Value.cells]) rfl (by decide) ?_ ?_ ?_
  · exact fun h => (by cases h)
  · exact fun _ => ⟨_, rfl⟩
  · refine ⟨_, Try.underlying44, ?_⟩
    refine ⟨⟨rfl, by kernel_rfl, by decide, fun h => (by cases h), fun _ => ⟨rfl, _, Try.underlying37, fun q h => (by cases h), fun n e h => (by cases h)⟩, exists_of_isSome (by kernel_rfl)⟩, ?_⟩
    refine ⟨⟨rfl, by kernel_rfl, by decide, fun h => (by cases h), fun _ => ⟨rfl, _, Try.underlying42, fun q h => (by cases h), fun n e h => (by cases h)⟩, exists_of_isSome (by kernel_rfl)⟩, ?_⟩
    refine ⟨⟨rfl, by kernel_rfl, by decide, fun h => (by cases h), fun _ => ⟨rfl, _, Try.underlying43, fun q h => (by cases h), fun n e h => (by cases h)⟩, exists_of_isSome (by kernel_rfl)⟩, ?_⟩
    refine ⟨⟨rfl, by kernel_rfl, by decide, fun h => (by cases h), fun _ => ⟨rfl, _, Try.underlying37, fun q h => (by cases h), fun n e h => (by cases h)⟩, exists_of_isSome (by kernel_rfl)⟩, ?_⟩
    refine ⟨⟨rfl, by kernel_rfl, by decide, fun h => (by cases h), fun _ => ⟨rfl, _, Try.underlying43, fun q h => (by cases h), fun n e h => (by cases h)⟩, exists_of_isSome (by kernel_rfl)⟩, ?_⟩
    refine ⟨⟨rfl, by kernel_rfl, by decide, fun h => (by cases h), fun _ => ⟨rfl, _, Try.underlying42, fun q h => (by cases h), fun n e h => (by cases h)⟩, exists_of_isSome (by kernel_rfl)⟩, ?_⟩
    refine ⟨⟨rfl, by kernel_rfl, by decide, fun h => (by cases h), fun _ => ⟨rfl, _, Try.underlying3, fun q h => (by cases h), fun n e h => (by cases h)⟩, exists_of_isSome (by kernel_rfl)⟩, ?_⟩
    trivial
theorem tyOk45 : TIOk Try.prog 45 ⟨.st [⟨0, 1, false⟩, ⟨1, 1, false⟩, ⟨2, 1, false⟩, ⟨3, 1, false⟩, ⟨4, 1, false⟩, ⟨5, 1, false⟩, ⟨6, 1, false⟩], 7, 152, [.nil, .nil, .nil, .nil, .nil, .nil, .d (.v (.int .i64 0))]⟩ := by
  refine tiok_of (z := (.agg #[.slice none 0 0, .slice none 0 0, .slice none 0 0, .slice none 0 0, .slice none 0 0, .slice none 0 0, .int .i64 0] : Value)) (by kernel_rfl) (by kernel_rfl) (by kernel_rfl) (by simp [ZsOk, ZOk, sc, Value.cells]) rfl (by decide) ?_ ?_ ?_
  · exact fun h => (by cases h)
  · exact fun _ => ⟨_, rfl⟩
  · refine ⟨_, Try.underlying45, ?_⟩
    refine ⟨⟨rfl, by kernel_rfl, by decide, fun h => (by cases h), fun _ => ⟨rfl, _, Try.underlying37, fun q h => (by cases h), fun n e h => (by cases h)⟩, exists_of_isSome (by kernel_rfl)⟩, ?_⟩
    refine ⟨⟨rfl, by kernel_rfl, by decide, fun h => (by cases h), fun _ => ⟨rfl, _, Try.underlying42, fun q h => (by cases h), fun n e h => (by cases h)⟩, exists_of_isSome (by kernel_rfl)⟩, ?_⟩
    refine ⟨⟨rfl, by kernel_rfl, by decide, fun h => (by cases h), fun _ => ⟨rfl, _, Try.underlying43, fun q h => (by cases h), fun n e h => (by cases h)⟩, exists_of_isSome (by kernel_rfl)⟩, ?_⟩
    refine ⟨⟨rfl, by kernel_rfl, by decide, fun h => (by cases h), fun _ => ⟨rfl, _, Try.underlying37, fun q h => (by cases h), fun n e h => (by cases h)⟩, exists_of_isSome (by kernel_rfl)⟩, ?_⟩
    refine ⟨⟨rfl, by kernel_rfl, by decide, fun h => (by cases h), fun _ => ⟨rfl, _, Try.underlying43, fun q h => (by cases h), fun n e h => (by cases h)⟩, exists_of_isSome (by kernel_rfl)⟩, ?_⟩
    refine ⟨⟨rfl, by kernel_rfl, by decide, fun h => (by cases h), fun _ => ⟨rfl, _, Try.underlying42, fun q h => (by cases h), fun n e h => (by cases h)⟩, exists_of_isSome (by kernel_rfl)⟩, ?_⟩
    refine ⟨⟨rfl, by kernel_rfl, by decide, fun h => (by cases h), fun _ => ⟨rfl, _, Try.underlying3, fun q h => (by cases h), fun n e h => (by cases h)⟩, exists_of_isSome (by kernel_rfl)⟩, ?_⟩
    trivial
theorem tyOk48 : TIOk Try.prog 48 ⟨.st [⟨0, 1, false⟩, ⟨1, 1, false⟩, ⟨2, 1, false⟩, ⟨3, 1, false⟩, ⟨4, 1, false⟩, ⟨5, 1, false⟩, ⟨6, 1, false⟩], 7, 152, [.nil, .nil, .nil, .nil, .nil, .nil, .d (.v (.int .i64 0))]⟩ := by
  refine tiok_of (z := (.agg #[.slice none 0 0, .slice none 0 0, .slice none 0 0, .slice none 0 0, .slice none 0 0, .slice none 0 0, .int .i64 0] : Value)) (by kernel_rfl) (by kernel_rfl) (by kernel_rfl) (by simp [ZsOk, ZOk, sc, Value.cells]) rfl (by decide) ?_ ?_ ?_
  · exact fun h => (by cases h)
  · exact fun _ => ⟨_, rfl⟩
  · refine ⟨_, Try.underlying48, ?_⟩
    refine ⟨⟨rfl, by kernel_rfl, by decide, fun h => (by cases h), fun _ => ⟨rfl, _, Try.underlying37, fun q h => (by cases h), fun n e h => (by cases h)⟩, exists_of_isSome (by kernel_rfl)⟩, ?_⟩
    refine ⟨⟨rfl, by kernel_rfl, by decide, fun h => (by cases h), fun _ => ⟨rfl, _, Try.underlying42, fun q h => (by cases h), fun n e h => (by cases h)⟩, exists_of_isSome (by kernel_rfl)⟩, ?_⟩
    refine ⟨⟨rfl, by kernel_rfl, by decide, fun h => (by cases h), fun _ => ⟨rfl, _, Try.underlying43, fun q h => (by cases h), fun n e h => (by cases h)⟩, exists_of_isSome (by kernel_rfl)⟩, ?_⟩
    refine ⟨⟨rfl, by kernel_rfl, by decide, fun h => (by cases h), fun _ => ⟨rfl, _, Try.underlying37, fun q h => (by cases h), fun n e h => (by cases h)⟩, exists_of_isSome (by kernel_rfl)⟩, ?_⟩
    refine ⟨⟨rfl, by kernel_rfl, by decide, fun h => (by cases h), fun _ => ⟨rfl, _, Try.underlying43, fun q h => (by cases h), fun n e h => (by cases h)⟩, exists_of_isSome (by kernel_rfl)⟩, ?_⟩
    refine ⟨⟨rfl, by kernel_rfl, by decide, fun h => (by cases h), fun _ => ⟨rfl, _, Try.underlying42, fun q h => (by cases h), fun n e h => (by cases h)⟩, exists_of_isSome (by kernel_rfl)⟩, ?_⟩
    refine ⟨⟨rfl, by kernel_rfl, by decide, fun h => (by cases h), fun _ => ⟨rfl, _, Try.underlying3, fun q h => (by cases h), fun n e h => (by cases h)⟩, exists_of_isSome (by kernel_rfl)⟩, ?_⟩
    trivial
theorem tyOk : TOk Try.prog ty := by
  intro t i h
  unfold ty at h
  split at h
  · cases h; exact tyOk2
  · cases h; exact tyOk3
  · cases h; exact tyOk4
  · cases h; exact tyOk5
  · cases h; exact tyOk6
  · cases h; exact tyOk7
  · cases h; exact tyOk8
  · cases h; exact tyOk9
  · cases h; exact tyOk10
  · cases h; exact tyOk11
  · cases h; exact tyOk12
  · cases h; exact tyOk13
  · cases h; exact tyOk14
  · cases h; exact tyOk18
  · cases h; exact tyOk19
  · cases h; exact tyOk21
  · cases h; exact tyOk24
  · cases h; exact tyOk25
  · cases h; exact tyOk26
  · cases h; exact tyOk29
  · cases h; exact tyOk30
  · cases h; exact tyOk31
  · cases h; exact tyOk37
  · cases h; exact tyOk42
  · cases h; exact tyOk43
  · cases h; exact tyOk44
  · cases h; exact tyOk45
  · cases h; exact tyOk48
  · cases h
end Go.Proofs.Ytbbdjpmfaclnjaa
