/- Sorts out of an argument. -/
import Derived.Test.YtbbdjpmfaclnjaaAbW
import Derived.Test.YtbbdjpmfaclnjaaAbZ
namespace Go.Proofs.Ytbbdjpmfaclnjaa
open Go Go.Ab
set_option linter.unusedVariables false
theorem strs_of {P : Program} {tN : TypeId} (hN : P.underlying tN = some .string) {m : List D} (h : ∀ x ∈ m, TDx P tN x) : ∃ a : List ByteArray, m = a.map D.str ∧ ∀ s ∈ a, s.size ≤ 9223372036854775807 :=
  choose_row D.str (fun s => s.size ≤ 9223372036854775807) m fun x hx => by
    obtain ⟨s, h1, h2⟩ := (h x hx).str_ hN
    exact ⟨s, h1, by simpa [maxLen] using h2⟩
theorem ints_of {P : Program} {tI : TypeId} (hI : P.underlying tI = some (.int .i64)) {m : List D} (h : ∀ x ∈ m, TDx P tI x) : ∃ a : List Int, m = a.map D.int := by
  obtain ⟨a, h1, _⟩ := choose_row D.int (fun _ => True) m fun x hx => by
    obtain ⟨s, h1, _⟩ := (h x hx).int_ hI
    exact ⟨s, h1, trivial⟩
  exact ⟨a, h1⟩
theorem intss_of {P : Program} {tI tL : TypeId} (hI : P.underlying tI = some (.int .i64)) (hL : P.underlying tL = some (.slice tI)) {m : List D} (h : ∀ x ∈ m, TDx P tL x) :
    ∃ a : List (List Int), m = a.map (fun r => D.lst (r.map D.int)) ∧ ∀ y ∈ a, y.length ≤ 9223372036854775807 :=
  choose_row (fun r : List Int => D.lst (r.map D.int)) (fun y : List Int => y.length ≤ 9223372036854775807) m fun x hx => by
    obtain ⟨q, rfl, h1, h2⟩ := (h x hx).slc_ hL
    obtain ⟨a, rfl⟩ := ints_of hI h2
    exact ⟨a, rfl, by simpa [maxLen] using h1⟩
theorem sorts_of {x : D} (h : TDx Try.prog 45 x) : ∃ v : TSorts, x = v.E ∧ v.ok := by
  obtain ⟨l, rfl, hf⟩ := h.st_ Try.underlying45
  obtain ⟨l0, r0, rfl, t0, hf⟩ := TDf.cons_ hf
  obtain ⟨l1, r1, rfl, t1, hf⟩ := hf.cons_
  obtain ⟨l2, r2, rfl, t2, hf⟩ := hf.cons_
  obtain ⟨l3, r3, rfl, t3, hf⟩ := hf.cons_
  obtain ⟨l4, r4, rfl, t4, hf⟩ := hf.cons_
  obtain ⟨l5, r5, rfl, t5, hf⟩ := hf.cons_
  obtain ⟨l6, r6, rfl, t6, hf⟩ := hf.cons_
  obtain rfl := hf.nil_
  obtain ⟨m0, rfl, n0, e0⟩ := t0.slc_ Try.underlying37
  obtain ⟨m1, rfl, n1, e1⟩ := t1.slc_ Try.underlying42
  obtain ⟨m2, rfl, n2, e2⟩ := t2.slc_ Try.underlying43
  obtain ⟨m3, rfl, n3, e3⟩ := t3.slc_ Try.underlying37
  obtain ⟨m4, rfl, n4, e4⟩ := t4.slc_ Try.underlying43
  obtain ⟨m5, rfl, n5, e5⟩ := t5.slc_ Try.underlying42
  obtain ⟨k, rfl, _⟩ := t6.int_ Try.underlying3
  obtain ⟨a0, rfl, s0⟩ := strs_of Try.underlying9 e0
  obtain ⟨a1, rfl⟩ := ints_of Try.underlying3 e1
  obtain ⟨a2, rfl, s2⟩ := intss_of Try.underlying3 Try.underlying42 e2
  obtain ⟨a3, rfl, s3⟩ := strs_of Try.underlying9 e3
  obtain ⟨a4, rfl, s4⟩ := intss_of Try.underlying3 Try.underlying42 e4
  obtain ⟨a5, rfl⟩ := ints_of Try.underlying3 e5
  simp only [maxLen, List.length_map] at n0 n1 n2 n3 n4 n5
  exact ⟨⟨a0, a1, a2, a3, a4, a5, k⟩, rfl, ⟨by simpa using n0, s0⟩, by simpa using n1, ⟨by simpa using n2, s2⟩, ⟨by simpa using n3, s3⟩, ⟨by simpa using n4, s4⟩, by simpa using n5⟩
end Go.Proofs.Ytbbdjpmfaclnjaa
