/- The types of this seat: how their values lie in cells; append of one number, one bool. -/
import Derived.Test.YtdfkiphdieoaaaaProg
import Derived.Test.YtdfkiphdieoaaaaBase
import Derived.BigQuiet
namespace Go.Proofs.Ytdfkiphdieoaaaa
open Go.RowKit

abbrev encI (x : Int) : List Value := [.int .i64 x]
abbrev encB (x : Bool) : List Value := [.bool x]
abbrev encS (x : ByteArray) : List Value := [.string x]
abbrev Ints := Rd encI 1
abbrev OwnI := Own encI 3 1


abbrev Strs := Rd encS 1
abbrev OwnS := Own encS 9 1

theorem info_int : (Try.prog.info? 3).map (fun i => (i.zero, i.size, i.bytes)) = some (some (.int .i64 0), 1, 8) := by kernel_rfl


theorem info_string : (Try.prog.info? 9).map (fun i => (i.zero, i.size, i.bytes)) = some (some (.string ByteArray.empty), 1, 16) := by kernel_rfl

theorem Rd.ints {w : World} {B n : Nat} {v : Value} {xs : List Int} (h : Ints w B v xs) (hn : xs.length = n) :
    ∃ a c, v = .slice a n c ∧ n ≤ c ∧ c ≤ 9223372036854775807 ∧
      ∀ i, i < n → ∃ b o x, a = some ⟨b, o, none⟩ ∧ b < B ∧ Hid (xs[i]? = some x) ∧ w.cell? ⟨b, o + i, none⟩ = some (.int .i64 x) := by
  obtain ⟨a, c, hv, h1, h2, h3⟩ := Rd.openN h (fun _ => rfl) hn
  refine ⟨a, c, hv, h1, h2, fun i hi => ?_⟩
  obtain ⟨b, o, x, ha, hb, hx, hc⟩ := h3 i hi
  exact ⟨b, o, x, ha, hb, hx, by simpa using hc 0 _ rfl⟩

theorem getI {w : World} {B g n c i : Nat} {xs : List Int} (h : OwnI w B (.slice (some ⟨g, 0, none⟩) n c) xs) (hn : xs.length = n) (hi : i < n) : ∃ x, Hid (xs[i]? = some x) ∧ w.cell? ⟨g, i, none⟩ = some (.int .i64 x) := by
  obtain ⟨a, c', hv, _, _, h3⟩ := (Rd.of_own h).ints hn
  obtain ⟨b, o, x, ha, _, hx, hc⟩ := h3 i hi
  simp only [Value.slice.injEq] at hv
  obtain ⟨rfl, _, _⟩ := hv
  simp only [Option.some.injEq, Addr.mk.injEq, and_true] at ha
  obtain ⟨rfl, rfl⟩ := ha
  exact ⟨x, hx, by simpa using hc⟩


section
variable {ops : Array Oper} {rest : List Oper} {o : Oper} {a : Act} {Q : Exit → Act → World → Prop} {w0 wr : World}




end
end Go.Proofs.Ytdfkiphdieoaaaa
