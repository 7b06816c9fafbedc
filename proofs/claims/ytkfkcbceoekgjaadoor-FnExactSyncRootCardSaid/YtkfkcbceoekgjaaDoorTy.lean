/- The types of this seat: how their values lie in cells; append of one number, one bool. -/
import Derived.Test.YtkfkcbceoekgjaaDoorProg
import Derived.Test.YtkfkcbceoekgjaaDoorBase
import Derived.BigQuiet
namespace Go.Proofs.YtkfkcbceoekgjaaDoor
open Go.RowKit

abbrev encI (x : Int) : List Value := [.int .i64 x]
abbrev encB (x : Bool) : List Value := [.bool x]
abbrev encS (x : ByteArray) : List Value := [.string x]
abbrev Ints := Rd encI 1
abbrev OwnI := Own encI 3 1

abbrev Bools := Rd encB 1
abbrev OwnB := Own encB 4 1

abbrev Strs := Rd encS 1
abbrev OwnS := Own encS 9 1

theorem info_int : (Tryd.prog.info? 3).map (fun i => (i.zero, i.size, i.bytes)) = some (some (.int .i64 0), 1, 8) := by kernel_rfl

theorem info_bool : (Tryd.prog.info? 4).map (fun i => (i.zero, i.size, i.bytes)) = some (some (.bool false), 1, 1) := by kernel_rfl

theorem info_string : (Tryd.prog.info? 9).map (fun i => (i.zero, i.size, i.bytes)) = some (some (.string ByteArray.empty), 1, 16) := by kernel_rfl

theorem Rd.ints {w : World} {B n : Nat} {v : Value} {xs : List Int} (h : Ints w B v xs) (hn : xs.length = n) :
    ∃ a c, v = .slice a n c ∧ n ≤ c ∧ c ≤ 9223372036854775807 ∧
      ∀ i, i < n → ∃ b o x, a = some ⟨b, o, none⟩ ∧ b < B ∧ Hid (xs[i]? = some x) ∧ w.cell? ⟨b, o + i, none⟩ = some (.int .i64 x) := by
  obtain ⟨a, c, hv, h1, h2, h3⟩ := Rd.openN h (fun _ => rfl) hn
  refine ⟨a, c, hv, h1, h2, fun i hi => ?_⟩
  obtain ⟨b, o, x, ha, hb, hx, hc⟩ := h3 i hi
  exact ⟨b, o, x, ha, hb, hx, by simpa using hc 0 _ rfl⟩

theorem getI {w : World} {B g n c i : Nat} {xs : List Int} (h : OwnI w B (.slice (some ⟨g, 0, none⟩) n c) xs) (hn : xs.length = n) (hi : i < n) : ∃ x, Hid (xs[i]? = some x) ∧ w.cell? ⟨g, i, none⟩ = some (.int .i64 x) := by
  obtain ⟨a, c', hv, _, _, h3⟩ := (Rd.of_own h).ints hn
  obtain ⟨b, o, x, ha, _, hx, hc⟩ := h3 i hi
  simp only [Value.slice.injEq] at hv
  obtain ⟨rfl, _, _⟩ := hv
  simp only [Option.some.injEq, Addr.mk.injEq, and_true] at ha
  obtain ⟨rfl, rfl⟩ := ha
  exact ⟨x, hx, by simpa using hc⟩

theorem Rd.bools {w : World} {B n : Nat} {v : Value} {xs : List Bool} (h : Bools w B v xs) (hn : xs.length = n) :
    ∃ a c, v = .slice a n c ∧ n ≤ c ∧ c ≤ 9223372036854775807 ∧
      ∀ i, i < n → ∃ b o x, a = some ⟨b, o, none⟩ ∧ b < B ∧ Hid (xs[i]? = some x) ∧ w.cell? ⟨b, o + i, none⟩ = some (.bool x) := by
  obtain ⟨a, c, hv, h1, h2, h3⟩ := Rd.openN h (fun _ => rfl) hn
  refine ⟨a, c, hv, h1, h2, fun i hi => ?_⟩
  obtain ⟨b, o, x, ha, hb, hx, hc⟩ := h3 i hi
  exact ⟨b, o, x, ha, hb, hx, by simpa using hc 0 _ rfl⟩

section
variable {ops : Array Oper} {rest : List Oper} {o : Oper} {a : Act} {Q : Exit → Act → World → Prop} {w0 wr : World}

theorem push_int (hgd : o.guard = none) (s x : Operand) (ho : o.op = .call { callee := .builtin .append, args := #[s, x], argTypes := #[24, 24] }) (B B0 : Nat) (v : Value) (acc : List Int) (y : Int)
    (hown : OwnI wr B v acc) (hb : Below B0 w0 wr) (hB : B ≤ wr.heap.size) (hB0 : B0 ≤ B) (hs : a.eval s = v) (hx : a.eval x = .slice (some ⟨wr.heap.size, 0, none⟩) 1 1) (hn : acc.length < 1099511627775)
    (h : ∀ v' w', OwnI w' B v' (acc ++ [y]) → Below B0 w0 w' → B ≤ w'.heap.size → wr.grownBy w' v.ownBlock ∧ (∀ g, v'.ownBlock = some g → v.ownBlock = some g ∨ wr.heap.size ≤ g) → wpList Tryd.prog ops Q rest (a.put o.dst v') w') :
    wpList Tryd.prog ops Q (o :: rest) a (wr.alloc (.cells #[.int .i64 y] 3)) := by
  obtain ⟨i0, hi, hz0, hz1, hz2⟩ := info_parts info_int
  exact wpList_push (enc := encI) hgd s x 24 ho B B0 3 i0 _ 1 8 Tryd.underlying24 hi hz0 hz1 hz2 rfl (by decide) v acc y hown hb hB hB0 hs hx rfl (by simp [Value.oneCell']) hn (by decide) h

theorem cat_int (hgd : o.guard = none) (s x : Operand) (ho : o.op = .call { callee := .builtin .append, args := #[s, x], argTypes := #[24, 24] }) (B B0 : Nat) (v sv : Value) (acc ys : List Int)
    (hown : OwnI wr B v acc) (Bs : Nat) (hr : Ints wr Bs sv ys) (hb : Below B0 w0 wr) (hB : B ≤ wr.heap.size) (hB0 : B0 ≤ B) (hs : a.eval s = v) (hx : a.eval x = sv) (hn : acc.length + ys.length < 1099511627776)
    (h : ∀ v' w', OwnI w' B v' (acc ++ ys) → Below B0 w0 w' → B ≤ w'.heap.size → wr.grownBy w' v.ownBlock ∧ (∀ g, v'.ownBlock = some g → v.ownBlock = some g ∨ wr.heap.size ≤ g) → wpList Tryd.prog ops Q rest (a.put o.dst v') w') :
    wpList Tryd.prog ops Q (o :: rest) a wr := by
  obtain ⟨i0, hi, hz0, hz1, hz2⟩ := info_parts info_int
  exact wpList_cat (enc := encI) hgd s x 24 ho B B0 3 i0 _ 1 8 Tryd.underlying24 hi hz0 hz1 hz2 rfl (by decide) v sv acc ys hown Bs hr hb hB hB0 hs hx (by simp [Value.oneCell']) hn (by decide) h

theorem push_bool (hgd : o.guard = none) (s x : Operand) (ho : o.op = .call { callee := .builtin .append, args := #[s, x], argTypes := #[65, 65] }) (B B0 : Nat) (v : Value) (acc : List Bool) (y : Bool)
    (hown : OwnB wr B v acc) (hb : Below B0 w0 wr) (hB : B ≤ wr.heap.size) (hB0 : B0 ≤ B) (hs : a.eval s = v) (hx : a.eval x = .slice (some ⟨wr.heap.size, 0, none⟩) 1 1) (hn : acc.length < 1099511627775)
    (h : ∀ v' w', OwnB w' B v' (acc ++ [y]) → Below B0 w0 w' → B ≤ w'.heap.size → wr.grownBy w' v.ownBlock ∧ (∀ g, v'.ownBlock = some g → v.ownBlock = some g ∨ wr.heap.size ≤ g) → wpList Tryd.prog ops Q rest (a.put o.dst v') w') :
    wpList Tryd.prog ops Q (o :: rest) a (wr.alloc (.cells #[.bool y] 4)) := by
  obtain ⟨i0, hi, hz0, hz1, hz2⟩ := info_parts info_bool
  exact wpList_push (enc := encB) hgd s x 65 ho B B0 4 i0 _ 1 1 Tryd.underlying65 hi hz0 hz1 hz2 rfl (by decide) v acc y hown hb hB hB0 hs hx rfl (by simp [Value.oneCell']) hn (by decide) h

end
end Go.Proofs.YtkfkcbceoekgjaaDoor
