/- Walks and plain facts, joined: Hex, Ent, ExS, Store. -/
import Derived.Test.YtachfmlfmpaddaaGreatDoorMg2
import Derived.Test.YtachfmlfmpaddaaGreatDoorMg3
import Derived.Test.YtachfmlfmpaddaaGreatDoorMg5
import Derived.Test.YtachfmlfmpaddaaGreatDoorMg6
import Derived.Test.YtachfmlfmpaddaaGreatDoorMg7
import Derived.Laws.Tables
import Derived.Laws.IdiomStrings
import Derived.Laws.ResultCell
import Derived.Handy
set_option linter.unusedVariables false
set_option linter.unusedSimpArgs false

/- Walks: digits in the base 16, as Go's library makes them. -/
namespace Go.Proofs.YtachfmlfmpaddaaGreatDoor
open Go.RowKit

/-- What the walks ask of the library's variables: one cell of a table. -/
def Glob (w : World) : Prop := w.cell? ⟨5, 15, none⟩ = some (.int .u8 4)
theorem Glob.on {w w' : World} (h : Glob w) (hb : Below w.heap.size w w') : Glob w' := by
  exact (hb.cell (World.block_lt_of_cell? w _ h)).trans h

set_option maxHeartbeats 400000 in
theorem pow2_c (w : World) :
    Calls Tryz.prog 208 #[.int .i64 16] w fun e w' => e = .returned (.bool true) ∧ w = w' := by
  have h1 : bits .and .i64 16 15 = 0 := by decide
  go_enter Tryz.func208, Tryz.ntmps208
  go_wp2
  go_ret
  exact ⟨rfl, rfl⟩

set_option maxHeartbeats 400000 in
theorem zeros64_c (w : World) (h : w.cell? ⟨5, 15, none⟩ = some (.int .u8 4)) :
    Calls Tryz.prog 212 #[.int .u64 16] w fun e w' => e = .returned (.int .i64 4) ∧ w = w' := by
  have e1 : bits .and .u64 16 (IntKind.u64.wrap (-16)) = 16 := by decide
  have e2 : IntKind.u64.wrap 4573923408821661840 = 4573923408821661840 := by decide
  go_enter Tryz.func212, Tryz.ntmps212
  go_wp2
  go_ret
  exact ⟨rfl, rfl⟩

set_option maxHeartbeats 400000 in
theorem zeros_c (w : World) (h : w.cell? ⟨5, 15, none⟩ = some (.int .u8 4)) :
    Calls Tryz.prog 209 #[.int .u64 16] w fun e w' => e = .returned (.int .i64 4) ∧ w = w' := by
  go_enter Tryz.func209, Tryz.ntmps209
  go_wp2_with (go_at_call 212; refine (zeros64_c _ h).mono ?_; rintro e w' ⟨rfl, rfl⟩)
  go_ret
  exact ⟨rfl, rfl⟩

theorem add_one0 (g p : Nat) : (⟨g, 0, none⟩ : Addr).add (p * 1) = ⟨g, p, none⟩ := by unfold Addr.add; split <;> simp_all
theorem dig36 (d : Nat) (hd : d < 16) (h : d < (⟨#[48, 49, 50, 51, 52, 53, 54, 55, 56, 57, 97, 98, 99, 100, 101, 102, 103, 104, 105, 106, 107, 108, 109, 110, 111, 112, 113, 114, 115, 116, 117, 118, 119, 120, 121, 122]⟩ : ByteArray).size) : (⟨#[48, 49, 50, 51, 52, 53, 54, 55, 56, 57, 97, 98, 99, 100, 101, 102, 103, 104, 105, 106, 107, 108, 109, 110, 111, 112, 113, 114, 115, 116, 117, 118, 119, 120, 121, 122]⟩ : ByteArray)[d]'h = hexD d := by
  have : ∀ d : Fin 16, (⟨#[48, 49, 50, 51, 52, 53, 54, 55, 56, 57, 97, 98, 99, 100, 101, 102, 103, 104, 105, 106, 107, 108, 109, 110, 111, 112, 113, 114, 115, 116, 117, 118, 119, 120, 121, 122]⟩ : ByteArray)[d.val]'(Nat.lt_of_lt_of_le d.isLt (by decide)) = hexD d.val := by decide
  exact this ⟨d, hd⟩
theorem setCell_heap {w : World} {g i : Nat} {cs : Array Value} {t : TypeId} {v : Value} (h : w.heap[g]? = some (.cells cs t (0, 0))) : (w.setCell ⟨g, i, none⟩ v).heap[g]? = some (.cells (cs.setIfInBounds i v) t (0, 0)) := by
  rw [setCell_eq_setRow w g i cs t (0, 0) v h]
  exact setRow_heap w g cs _ t (0, 0) h
/-- One digit more, in front of those that stand. -/
theorem hex_front {cs : Array Value} {p : Nat} {D : List UInt8} {c : UInt8} {v : Value} (hp : p < cs.size) (hv : v = .int .u8 c.toNat) (h : ∀ (j : Nat) (x : UInt8), D[j]? = some x → cs[p + 1 + j]? = some (.int .u8 x.toNat)) : ∀ (j : Nat) (x : UInt8), (c :: D)[j]? = some x → (cs.setIfInBounds p v)[p + j]? = some (.int .u8 x.toNat) := by
  intro j x hj
  cases j with
  | zero =>
    simp at hj; subst hj
    rw [Nat.add_zero, Array.getElem?_setIfInBounds_self_of_lt hp, hv]
  | succ j =>
    rw [Array.getElem?_setIfInBounds_ne (by omega), show p + (j + 1) = p + 1 + j by omega]
    exact h j x (by simpa using hj)

set_option maxHeartbeats 2000000 in
set_option maxRecDepth 100000 in
theorem formatBits_c (n : Nat) (w : World) (hn : n < 16777216) (h : Glob w) :
    Calls Tryz.prog 200 #[.slice none 0 0, .int .u64 n, .int .i64 16, .bool false, .bool false] w fun e w' => e = .returned (.tuple #[.slice none 0 0, .string ⟨(hexF 6 n).toArray⟩]) ∧ Below w.heap.size w w' := by
  go_enter Tryz.func200, Tryz.ntmps200
  go_wp2_with (first | (go_at_call 208; refine (pow2_c _).mono ?_; rintro e w' ⟨rfl, rfl⟩) | (go_at_call 209; refine (zeros_c _ (h.on ((Below.refl _ _).alloc (Nat.le_refl _) _))).mono ?_; rintro e w' ⟨rfl, rfl⟩))
  go_loopw [1, 13] (fun uv iv wr => ∃ (f u p : Nat) (D : List UInt8) (cs : Array Value), uv = .int .u64 u ∧ iv = .int .i64 p ∧ p + D.length = 65 ∧ D.length + f = 5 ∧ u < 16 ^ (f + 1) ∧ u < 16777216 ∧ Hid (hexF (f + 1) u ++ D = hexF 6 n) ∧ wr.heap[w.heap.size]? = some (.cells cs 171 (0, 0)) ∧ cs.size = 65 ∧ Hid (∀ (j : Nat) (c : UInt8), D[j]? = some c → cs[p + j]? = some (.int .u8 c.toNat)) ∧ Below w.heap.size w wr) (fun uv _ _ => (intOf uv).toNat)
  case atStart => exact ⟨5, n, 65, [], _, rfl, rfl, rfl, rfl, by omega, hn, hid (List.append_nil _), heap_alloc_new _ _, by kernel_rfl, hid (fun j c hj => by simp at hj), (Below.refl _ _).alloc (Nat.le_refl _) _⟩
  case round =>
    obtain ⟨f, u, p, D, cs, rfl, rfl, hp, hf, hu, hu9, hD, hcell, hcs, hat, hb⟩ := hrel
    obtain ⟨p', rfl⟩ : ∃ p', p = p' + 1 := ⟨p - 1, by omega⟩
    have hpp : ((p' + 1 : Nat) : Int) - 1 = (p' : Int) := by omega
    have hp0 : p' < 65 := by omega
    obtain ⟨old, hold⟩ : ∃ old, cs[p']? = some old := ⟨cs[p']'(by omega), Array.getElem?_eq_getElem _⟩
    have hc0 : wr.cell? ⟨w.heap.size, p', none⟩ = some old := by simp only [World.cell?, hcell]; exact hold
    have hf0 : wr.frozen? ⟨w.heap.size, p', none⟩ = false := frozen_of_row _ _ _ _ _ hcell
    by_cases h16 : 16 ≤ u
    · obtain ⟨q, hq⟩ : ∃ q, u / 16 = q := ⟨_, rfl⟩
      obtain ⟨d, hd⟩ : ∃ d, u % 16 = d := ⟨_, rfl⟩
      have hd16 : d < 16 := by omega
      have hqi : (u : Int) / 16 = q := by omega
      have hand : bits .and .u64 (u : Int) 15 = (d : Int) := by
        have := bits_and_u64_nat u 15 (by omega) (by omega)
        rw [show ((15 : Nat) : Int) = 15 from rfl] at this
        rw [this, ← hd]
        have h2 := Nat.and_two_pow_sub_one_eq_mod u 4
        simp at h2
        rw [h2]
      obtain ⟨f', rfl⟩ : ∃ f', f = f' + 1 := by
        cases f with
        | zero => simp at hu; omega
        | succ f' => exact ⟨f', rfl⟩
      have hHF := hid (show hexF (f' + 1 + 1) u = hexF (f' + 1) q ++ [hexD d] by rw [hexF, if_neg (by omega), hq, hd])
      have hq9 : q < 16 ^ (f' + 1) := by rw [Nat.pow_succ] at hu; omega
      have HQ := hid hq9
      have hqu : q < u := by omega
      clear hu hq9 hq hd
      go_wp2
      go_roundw
      case rel =>
        refine ⟨f', q, p', hexD d :: D, _, rfl, rfl, by simp; omega, by simp; omega, HQ.out, by omega, hid ?_, setCell_heap hcell, by simp [hcs], hid (hex_front (by omega) (by rw [dig36 d hd16]) hat.out), hb.setCell (Nat.le_refl _) _⟩
        rw [← hD.out, hHF.out, List.append_assoc]; rfl
      case measure => simp [intOf]; omega
    · have hu16 : u < 16 := by omega
      have hHF := hid (show hexF (f + 1) u = [hexD u] by rw [hexF, if_pos hu16])
      have hfin := hid (show (hexD u :: D) = hexF 6 n by rw [← hD.out, hHF.out]; rfl)
      have hlen : (hexF 6 n).length = 65 - p' := by rw [← hfin.out]; simp; omega
      have hpc : ¬ (65 = p') := by omega
      have hlt36 : u < (⟨#[48, 49, 50, 51, 52, 53, 54, 55, 56, 57, 97, 98, 99, 100, 101, 102, 103, 104, 105, 106, 107, 108, 109, 110, 111, 112, 113, 114, 115, 116, 117, 118, 119, 120, 121, 122]⟩ : ByteArray).size := Nat.lt_of_lt_of_le hu16 (by decide)
      obtain ⟨W1, hW1⟩ : ∃ W1, W1 = wr.setCell ⟨w.heap.size, p', none⟩ (.int .u8 (((⟨#[48, 49, 50, 51, 52, 53, 54, 55, 56, 57, 97, 98, 99, 100, 101, 102, 103, 104, 105, 106, 107, 108, 109, 110, 111, 112, 113, 114, 115, 116, 117, 118, 119, 120, 121, 122]⟩ : ByteArray)[u]'hlt36).toNat : Int)) := ⟨_, rfl⟩
      have hcell1 : W1.heap[w.heap.size]? = some (.cells (cs.setIfInBounds p' (.int .u8 (((⟨#[48, 49, 50, 51, 52, 53, 54, 55, 56, 57, 97, 98, 99, 100, 101, 102, 103, 104, 105, 106, 107, 108, 109, 110, 111, 112, 113, 114, 115, 116, 117, 118, 119, 120, 121, 122]⟩ : ByteArray)[u]'hlt36).toNat : Int))) 171 (0, 0)) := by rw [hW1]; exact setCell_heap hcell
      have hb1 : Below w.heap.size w W1 := by rw [hW1]; exact hb.setCell (Nat.le_refl _) _
      have hat1 := hex_front (v := .int .u8 (((⟨#[48, 49, 50, 51, 52, 53, 54, 55, 56, 57, 97, 98, 99, 100, 101, 102, 103, 104, 105, 106, 107, 108, 109, 110, 111, 112, 113, 114, 115, 116, 117, 118, 119, 120, 121, 122]⟩ : ByteArray)[u]'hlt36).toNat : Int)) (c := hexD u) (by omega) (by rw [dig36 u hu16]) hat.out
      have m1 : (convert 22 9 (.slice (some ⟨w.heap.size, p', none⟩) (65 - p') (65 - p'))).run Tryz.prog W1 = .ok (.string ⟨(hexF 6 n).toArray⟩) W1 := by
        have := run_convert_bytes_back (P := Tryz.prog) W1 22 9 5 ⟨w.heap.size, p', none⟩ (65 - p') (hexF 6 n) Tryz.underlying22 Tryz.underlying5 Tryz.underlying9 (fun j hj => by
          rw [show (⟨w.heap.size, p', none⟩ : Addr).add j = ⟨w.heap.size, p' + j, none⟩ by unfold Addr.add; split <;> simp_all]
          simp only [World.cell?, hcell1]
          exact hat1 j _ (by rw [hfin.out, List.getElem?_eq_getElem hj]))
        rw [hlen] at this
        exact this
      have HL := hid hlen
      clear hlen hat1 hcell1
      have hal : Tryz.prog.arrayLen 171 = 65 := by kernel_rfl
      have hl1 : (p' : Int) ≤ Tryz.prog.arrayLen 171 := by rw [hal]; omega
      have m0 : ∀ W : World, (Instr.sliceAt 171 (.pointer (some ⟨w.heap.size, 0, none⟩)) (some (.int .i64 (p' : Int))) none none).run Tryz.prog W = .ok (.slice (some ⟨w.heap.size, p', none⟩) (65 - p') (65 - p')) W := fun W => by
        rw [run_sliceAt_array_l W 171 ⟨w.heap.size, 0, none⟩ (by kernel_rfl) .i64 (p' : Int) (by omega) hl1, show (Go.sizeOf (Tryz.prog.elem 171)).run Tryz.prog W = .ok 1 W by kernel_rfl, hal]
        simp only [Result.andThen, slicedAt, Int.toNat_natCast, if_neg hpc, add_one0]
      have m2 : (convert 22 9 (.slice (some ⟨w.heap.size, p', none⟩) (65 - p') (65 - p'))).run Tryz.prog (wr.setCell ⟨w.heap.size, p', none⟩ (.int .u8 (((⟨#[48, 49, 50, 51, 52, 53, 54, 55, 56, 57, 97, 98, 99, 100, 101, 102, 103, 104, 105, 106, 107, 108, 109, 110, 111, 112, 113, 114, 115, 116, 117, 118, 119, 120, 121, 122]⟩ : ByteArray)[u]'hlt36).toNat : Int))) = .ok (.string ⟨(hexF 6 n).toArray⟩) (wr.setCell ⟨w.heap.size, p', none⟩ (.int .u8 (((⟨#[48, 49, 50, 51, 52, 53, 54, 55, 56, 57, 97, 98, 99, 100, 101, 102, 103, 104, 105, 106, 107, 108, 109, 110, 111, 112, 113, 114, 115, 116, 117, 118, 119, 120, 121, 122]⟩ : ByteArray)[u]'hlt36).toNat : Int))) := by rw [← hW1]; exact m1
      have hbf : Below w.heap.size w (wr.setCell ⟨w.heap.size, p', none⟩ (.int .u8 (((⟨#[48, 49, 50, 51, 52, 53, 54, 55, 56, 57, 97, 98, 99, 100, 101, 102, 103, 104, 105, 106, 107, 108, 109, 110, 111, 112, 113, 114, 115, 116, 117, 118, 119, 120, 121, 122]⟩ : ByteArray)[u]'hlt36).toNat : Int))) := by rw [← hW1]; exact hb1
      clear hW1 m1
      go_wp2_with (first | simp only [m0] | simp only [m2])
      go_ret2
      exact ⟨rfl, hbf⟩

end Go.Proofs.YtachfmlfmpaddaaGreatDoor

/- Walks: rows of entries, valid entries. -/
namespace Go.Proofs.YtachfmlfmpaddaaGreatDoor
open Go.RowKit

abbrev encE (e : Ent) : List Value := [.string e.name, .int .i64 e.print]
abbrev Ents := Rd encE 2
abbrev OwnE := Own encE 81 2
theorem Rd.ents {w : World} {B n : Nat} {v : Value} {xs : List Ent} (h : Ents w B v xs) (hn : xs.length = n) :
    ∃ a c, v = .slice a n c ∧ n ≤ c ∧ c ≤ 9223372036854775807 ∧
      ∀ i, i < n → ∃ (b o : Nat) (t : ByteArray) (r : Int), a = some ⟨b, o, none⟩ ∧ b < B ∧ Hid (xs[i]? = some ⟨t, r⟩) ∧ w.cell? ⟨b, o + i * 2, none⟩ = some (.string t) ∧ w.cell? ⟨b, o + i * 2 + 1, none⟩ = some (.int .i64 r) := by
  obtain ⟨a, c, hv, h1, h2, h3⟩ := Rd.openN h (fun _ => rfl) hn
  refine ⟨a, c, hv, h1, h2, fun i hi => ?_⟩
  obtain ⟨b, o, ⟨t, r⟩, ha, hb, hx, hc⟩ := h3 i hi
  exact ⟨b, o, t, r, ha, hb, hx, by simpa using hc 0 _ rfl, by simpa [Nat.add_assoc] using hc 1 _ rfl⟩

/-! ### Plain facts -/
def lastN (p : Option ByteArray) (l : List Ent) : Nat → Option ByteArray
  | 0 => p
  | k + 1 => match l[k]? with | some e => some e.name | none => p
def ltO : Option ByteArray → ByteArray → Bool
  | some b, c => ltN b c
  | none, _ => true
theorem lastN_succ {p : Option ByteArray} {l : List Ent} {k : Nat} {x : Ent} (h : l[k]? = some x) : lastN p l (k + 1) = some x.name := by simp [lastN, h]
theorem entsFrom_cons (p : Option ByteArray) (e : Ent) (r : List Ent) : entsFrom p (e :: r) = (entOk e && ltO p e.name && entsFrom (some e.name) r) := by cases p <;> rfl
theorem entsFrom_succ : ∀ (l : List Ent) (p : Option ByteArray) (k : Nat) (x : Ent), l[k]? = some x → entsFrom p (l.take (k + 1)) = (entsFrom p (l.take k) && (entOk x && ltO (lastN p l k) x.name))
  | [], p, k, x, h => by simp at h
  | e :: r, p, 0, x, h => by
    simp at h; subst h
    simp [entsFrom_cons, entsFrom, lastN]
  | e :: r, p, 1, x, h => by
    have := entsFrom_succ r (some e.name) 0 x (by simpa using h)
    simp only [List.take_succ_cons, entsFrom_cons]
    rw [this]
    simp [entsFrom, lastN, Bool.and_assoc]
  | e :: r, p, k + 2, x, h => by
    have hg : r[k + 1]? = some x := by simpa using h
    have := entsFrom_succ r (some e.name) (k + 1) x hg
    have hk : k < r.length := by have := (List.getElem?_eq_some_iff.1 hg).1; omega
    simp only [List.take_succ_cons, entsFrom_cons] at this ⊢
    rw [this]
    simp [lastN, List.getElem?_eq_getElem hk, Bool.and_assoc]
theorem entsFrom_take : ∀ (l : List Ent) (p : Option ByteArray) (k : Nat), entsFrom p l = true → entsFrom p (l.take k) = true
  | [], p, k, _ => by simp [entsFrom]
  | e :: r, p, 0, _ => rfl
  | e :: r, p, k + 1, h => by
    rw [entsFrom_cons, Bool.and_eq_true] at h
    rw [List.take_succ_cons, entsFrom_cons, h.1, entsFrom_take r _ k h.2]; rfl
theorem ent_no {l : List Ent} {k : Nat} {x : Ent} (h : l[k]? = some x) (hv : (entOk x && ltO (lastN none l k) x.name) = false) : entsOk l = false := by
  cases hh : entsFrom none l
  · simp [entsOk, hh]
  · have := entsFrom_take l none (k + 1) hh
    rw [entsFrom_succ l none k x h, hv, Bool.and_false] at this
    cases this
theorem ent_long {l : List Ent} (h : 3 < l.length) : entsOk l = false := by simp [entsOk]; omega
theorem ent_step {l : List Ent} {k : Nat} {x : Ent} (h : l[k]? = some x) (h0 : entsFrom none (l.take k) = true) (h1 : entOk x = true) (h2 : ltO (lastN none l k) x.name = true) : entsFrom none (l.take (k + 1)) = true := by
  rw [entsFrom_succ l none k x h, h0, h1, h2]; rfl
theorem entOk_no1 {t : ByteArray} {r : Int} (h : wordOk (bs t) = false) (y : Bool) : (entOk ⟨t, r⟩ && y) = false := by simp [entOk, h]
theorem entOk_no2 {t : ByteArray} {r : Int} (h : pv r = false) (y : Bool) : (entOk ⟨t, r⟩ && y) = false := by simp [entOk, h]
theorem entOk_yes {t : ByteArray} {r : Int} (h : wordOk (bs t) = true) (h' : pv r = true) : entOk ⟨t, r⟩ = true := by simp [entOk, h, h']
theorem ltN_eq (a b : ByteArray) : Go.Op.bytesLess a.toList b.toList = ltN a b := by rw [ByteArray.toList_eq, ByteArray.toList_eq]; rfl
theorem bl_total : ∀ (a b : List UInt8), (Go.Op.bytesLess b a || b == a) = !Go.Op.bytesLess a b
  | [], [] => by simp [Go.Op.bytesLess]
  | [], _ :: _ => by simp [Go.Op.bytesLess]
  | _ :: _, [] => by simp [Go.Op.bytesLess]
  | x :: r, y :: s => by
    have ih := bl_total r s
    simp only [Go.Op.bytesLess]
    by_cases h : x = y
    · subst h
      have e1 : (x :: s == x :: r) = (s == r) := by rw [Bool.eq_iff_iff, beq_iff_eq, beq_iff_eq]; simp
      have e2 : decide (x < x) = false := decide_eq_false (UInt8.lt_irrefl x)
      have e3 : (x == x) = true := by simp
      rw [e1, e2, e3, Bool.false_or, Bool.true_and, Bool.false_or, Bool.true_and]
      exact ih
    · by_cases h2 : x < y
      · have h3 : ¬ y < x := fun h4 => absurd (UInt8.lt_trans h2 h4) (UInt8.lt_irrefl _)
        simp [h2, h3, Ne.symm h]
      · have h3 : y < x := by
          rcases UInt8.lt_or_lt_of_ne h with h4 | h4
          · exact absurd h4 h2
          · exact h4
        simp [h, h2, h3]
theorem ltN_total (a b : ByteArray) : (Go.Op.bytesLess b.toList a.toList || b.toList == a.toList) = !ltN a b := by
  rw [ByteArray.toList_eq, ByteArray.toList_eq]; exact bl_total _ _

set_option maxHeartbeats 2000000 in
set_option maxRecDepth 100000 in
theorem impl_EntriesValid_c (v : Value) (xs : List Ent) (w : World) (h : Ents w w.heap.size v xs) :
    Calls Tryz.prog 147 #[v] w fun e w' => e = .returned (.bool (entsOk xs)) ∧ Below w.heap.size w w' := by
  obtain ⟨n, hn⟩ : ∃ n, xs.length = n := ⟨_, rfl⟩
  obtain ⟨a, c, rfl, h1, h2, h3⟩ := h.ents hn
  have HN := hid hn
  clear hn h
  by_cases c1 : 3 < n
  · have HO := hid (ent_long (l := xs) (by rw [HN.out]; exact c1))
    clear h3
    go_enter Tryz.func147, Tryz.ntmps147
    go_wp2
    go_ret
    exact ⟨ret_b HO.out.symm, Below.refl _ _⟩
  · go_enter Tryz.func147, Tryz.ntmps147
    go_wp2
    go_loopw [10] (fun i wr => ∃ k : Nat, k ≤ n ∧ i = .int .i64 k ∧ Hid (entsFrom none (xs.take k) = true) ∧ Below w.heap.size w wr) (fun i _ => n - (intOf i).toNat)
    case atStart => exact ⟨0, Nat.zero_le _, rfl, rfl, Below.refl _ _⟩
    case round =>
      obtain ⟨k, hk, rfl, hall, hb⟩ := hrel
      by_cases hlt : k < n
      · obtain ⟨b, o, t, r, rfl, hbl, hx, k0, k1⟩ := h3 k hlt
        have j0 := (hb.cell (p := ⟨b, o + k * 2, none⟩) hbl).trans k0
        have j1 := (hb.cell (p := ⟨b, o + k * 2 + 1, none⟩) hbl).trans k1
        have HAL : Hid (∀ cs q, Below w.heap.size w ((wr.alloc (.cells cs 81)).drewN q)) := fun cs q => bl_drewN (hb.alloc hb.size _) q
        have HAL0 : Hid (∀ cs, Below w.heap.size w (wr.alloc (.cells cs 81))) := fun cs => hb.alloc hb.size _
        clear k0 k1
        cases ht : wordOk (bs t)
        · have HO := hid (ent_no hx.out (entOk_no1 ht _))
          clear h3
          go_wp2_with (go_at_call 63; refine (impl_WordValid_c _ _).mono ?_; rw [ht]; rintro e w' ⟨rfl, rfl⟩)
          go_ret
          exact ⟨ret_b HO.out.symm, HAL0.out _⟩
        · have HT := hid ht
          clear ht
          cases hp : inB r 0 16777212
          · have HO := hid (ent_no hx.out (entOk_no2 hp _))
            clear h3
            go_wp2_with (first | (go_at_call 63; refine (impl_WordValid_c _ _).mono ?_; rw [HT.out]; rintro e w' ⟨rfl, rfl⟩) | (go_at_call 171; refine (impl_printValid_c _ _).mono ?_; rw [hp]; rintro e w' ⟨rfl, rfl⟩))
            go_ret
            exact ⟨ret_b HO.out.symm, HAL0.out _⟩
          · have HE := hid (entOk_yes HT.out hp)
            have HP := hid hp
            clear hp
            by_cases hk0 : k = 0
            · have hd0 : decide (0 < k) = false := by simp; omega
              have HS := hid (ent_step hx.out hall.out HE.out (by rw [hk0]; rfl))
              clear h3 hk0
              go_wp2_with (first | (go_at_call 63; refine (impl_WordValid_c _ _).mono ?_; rw [HT.out]; rintro e w' ⟨rfl, rfl⟩) | (go_at_call 171; refine (impl_printValid_c _ _).mono ?_; rw [HP.out]; rintro e w' ⟨rfl, rfl⟩))
              go_quiet (fail)
              go_wp2
              go_roundw
              case rel => exact ⟨k + 1, by omega, by go_num, HS.out, HAL.out _ _⟩
              case measure => simp [intOf]; omega
            · obtain ⟨j, hj⟩ : ∃ j, k = j + 1 := ⟨k - 1, by omega⟩
              obtain ⟨b', o', t', r', hbo, hbl', hx', k0', _⟩ := h3 j (by omega)
              simp only [Option.some.injEq, Addr.mk.injEq, and_true] at hbo
              obtain ⟨rfl, rfl⟩ := hbo
              have i0 := (hb.cell (p := ⟨b, o + j * 2, none⟩) hbl').trans k0'
              have i1 : (wr.alloc (.cells #[.string t, .int .i64 r] 81)).cell? ⟨b, o + j * 2, none⟩ = some (.string t') := (((Below.refl wr.heap.size wr).alloc (Nat.le_refl _) _).cell (p := ⟨b, o + j * 2, none⟩) (Nat.lt_of_lt_of_le hbl hb.size)).trans i0
              have hL := lastN_succ (p := none) hx'.out
              rw [← hj] at hL
              have hd0 : decide (0 < k) = true := by simp; omega
              have hkj : (k : Int) - 1 = (j : Int) := by omega
              have hw1 : IntKind.i64.wrap (j : Int) = (j : Int) := IntWalk.i64_in _ (by omega)
              have hjn : (j : Int) < n := by omega
              clear h3 k0' hk0 hj
              cases hlast : ltN t' t
              · have hd1 : Go.Op.bytesLess t'.toList t.toList = false := by rw [ltN_eq]; exact hlast
                have HO := hid (ent_no (l := xs) hx.out (by rw [hL]; simp only [ltO]; rw [hlast, Bool.and_false]))
                clear hlast hL hx'
                go_wp2_with (first | (go_at_call 63; refine (impl_WordValid_c _ _).mono ?_; rw [HT.out]; rintro e w' ⟨rfl, rfl⟩) | (go_at_call 171; refine (impl_printValid_c _ _).mono ?_; rw [HP.out]; rintro e w' ⟨rfl, rfl⟩))
                go_quiet (fail)
                go_wp2
                go_ret
                exact ⟨ret_b HO.out.symm, HAL.out _ _⟩
              · have hd1 : Go.Op.bytesLess t'.toList t.toList = true := by rw [ltN_eq]; exact hlast
                have HS := hid (ent_step hx.out hall.out HE.out (by rw [hL]; exact hlast))
                clear hlast hL hx'
                go_wp2_with (first | (go_at_call 63; refine (impl_WordValid_c _ _).mono ?_; rw [HT.out]; rintro e w' ⟨rfl, rfl⟩) | (go_at_call 171; refine (impl_printValid_c _ _).mono ?_; rw [HP.out]; rintro e w' ⟨rfl, rfl⟩))
                go_quiet (fail)
                go_wp2
                go_roundw
                case rel => exact ⟨k + 1, by omega, by go_num, HS.out, HAL.out _ _⟩
                case measure => simp [intOf]; omega
      · have hall' := hall.out
        rw [take_all HN.out (show n ≤ k by omega)] at hall'
        have HO := hid (show entsOk xs = true by unfold entsOk; rw [hall', HN.out]; simp; omega)
        clear hall' h3
        go_wp2
        go_ret
        exact ⟨ret_b HO.out.symm, hb⟩

theorem spec_WordValid_e (s : ByteArray) (w : World) {x : Bool} (hs : s.size ≤ 4611686018427387904) (h : wordOk (bs s) = x) :
    Calls Tryz.prog 134 #[.string s] w fun e w' => e = .returned (.bool x) ∧ w = w' := h ▸ spec_WordValid_c s w hs

theorem spec_l1In_e (n lo hi : Int) (w : World) {x : Bool} (h : inB n lo hi = x) :
    Calls Tryz.prog 135 #[.int .i64 n, .int .i64 lo, .int .i64 hi] w fun e w' => e = .returned (.bool x) ∧ w = w' := h ▸ spec_l1In_c n lo hi w

set_option maxHeartbeats 2000000 in
set_option maxRecDepth 100000 in
theorem spec_EntriesValid_c (v : Value) (xs : List Ent) (B : Nat) (w : World) (h : Ents w B v xs) (hx0 : ∀ x ∈ xs, x.name.size ≤ 1048576) (hl : xs.length ≤ 1048576) :
    Calls Tryz.prog 176 #[v] w fun e w' => e = .returned (.bool (entsOk xs)) ∧ ∃ q, w' = w.drewN q := by
  obtain ⟨n, hn⟩ : ∃ n, xs.length = n := ⟨_, rfl⟩
  obtain ⟨a, c, rfl, h1, h2, h3⟩ := h.ents hn
  rw [hn] at hl
  have HN := hid hn
  have HX := hid hx0
  clear hn h hx0
  go_enter Tryz.func176, Tryz.ntmps176
  go_wp2
  go_loopw [3] (fun i wr => ∃ k q : Nat, k ≤ n ∧ i = .int .i64 k ∧ Hid (entsFrom none (xs.take k) = true) ∧ wr = w.drewN q) (fun i _ => n - (intOf i).toNat)
  case atStart => exact ⟨0, 0, Nat.zero_le _, rfl, rfl, rfl⟩
  case round =>
    obtain ⟨k, q, hk, rfl, hall, rfl⟩ := hrel
    by_cases hlt : k < n
    · obtain ⟨b, o, t, r, rfl, hbl, hx, k0, k1⟩ := h3 k hlt
      have HTS := hid (show t.size ≤ 4611686018427387904 from Nat.le_trans (HX.out _ (List.mem_of_getElem? hx.out)) (by omega))
      cases ht : wordOk (bs t)
      · have HO := hid (ent_no hx.out (entOk_no1 ht _))
        have HT := hid ht
        clear h3 ht
        go_wp2
        go_quiet (first | (go_at_call 134; exact qsame (spec_WordValid_e _ _ HTS.out HT.out)) | fail)
        go_wp2
        go_ret
        exact ⟨ret_b HO.out.symm, _, World.drewN_drewN _ _ _⟩
      · have HT := hid ht
        clear ht
        cases hp : inB r 0 16777212
        · have HO := hid (ent_no hx.out (entOk_no2 hp _))
          have HP := hid hp
          clear h3 hp
          go_wp2
          go_quiet (first | (go_at_call 134; exact qsame (spec_WordValid_e _ _ HTS.out HT.out)) | (go_at_call 135; exact qsame (spec_l1In_e _ _ _ _ HP.out)))
          go_wp2
          go_ret
          exact ⟨ret_b HO.out.symm, _, World.drewN_drewN _ _ _⟩
        · have HE := hid (entOk_yes HT.out hp)
          have HP := hid hp
          clear hp
          by_cases hk0 : k = 0
          · have hd0 : decide (0 < k) = false := by simp; omega
            have HS := hid (ent_step hx.out hall.out HE.out (by rw [hk0]; rfl))
            clear h3 hk0
            go_wp2
            go_quiet (first | (go_at_call 134; exact qsame (spec_WordValid_e _ _ HTS.out HT.out)) | (go_at_call 135; exact qsame (spec_l1In_e _ _ _ _ HP.out)))
            go_wp2
            go_roundw
            case rel => exact ⟨k + 1, _, by omega, by go_num, HS.out, rfl⟩
            case measure => simp [intOf]; omega
          · obtain ⟨j, hj⟩ : ∃ j, k = j + 1 := ⟨k - 1, by omega⟩
            obtain ⟨b', o', t', r', hbo, hbl', hx', k0', _⟩ := h3 j (by omega)
            simp only [Option.some.injEq, Addr.mk.injEq, and_true] at hbo
            obtain ⟨rfl, rfl⟩ := hbo
            have hL := lastN_succ (p := none) hx'.out
            rw [← hj] at hL
            have hd0 : decide (0 < k) = true := by simp; omega
            have hkj : (k : Int) - 1 = (j : Int) := by omega
            have hw1 : IntKind.i64.wrap (j : Int) = (j : Int) := IntWalk.i64_in _ (by omega)
            have hjn : (j : Int) < n := by omega
            clear h3 hk0 hj
            cases hlast : ltN t' t
            · have hd1 : (Go.Op.bytesLess t.toList t'.toList || t.toList == t'.toList) = true := by rw [ltN_total, hlast]; rfl
              have HO := hid (ent_no (l := xs) hx.out (by rw [hL]; simp only [ltO]; rw [hlast, Bool.and_false]))
              clear hlast hL hx'
              go_wp2
              go_quiet (first | (go_at_call 134; exact qsame (spec_WordValid_e _ _ HTS.out HT.out)) | (go_at_call 135; exact qsame (spec_l1In_e _ _ _ _ HP.out)))
              go_wp2
              go_ret
              exact ⟨ret_b HO.out.symm, _, World.drewN_drewN _ _ _⟩
            · have hd1 : (Go.Op.bytesLess t.toList t'.toList || t.toList == t'.toList) = false := by rw [ltN_total, hlast]; rfl
              have HS := hid (ent_step hx.out hall.out HE.out (by rw [hL]; exact hlast))
              clear hlast hL hx'
              go_wp2
              go_quiet (first | (go_at_call 134; exact qsame (spec_WordValid_e _ _ HTS.out HT.out)) | (go_at_call 135; exact qsame (spec_l1In_e _ _ _ _ HP.out)))
              go_wp2
              go_roundw
              case rel => exact ⟨k + 1, _, by omega, by go_num, HS.out, rfl⟩
              case measure => simp [intOf]; omega
    · have hall' := hall.out
      rw [take_all HN.out (show n ≤ k by omega)] at hall'
      have HO := hid (show entsOk xs = decide ((n : Int) ≤ 3) by unfold entsOk; rw [hall', HN.out]; simp; omega)
      clear hall' h3
      go_wp2
      go_ret
      exact ⟨ret_b HO.out.symm, q, rfl⟩

end Go.Proofs.YtachfmlfmpaddaaGreatDoor

/- Walks of the exact laws' own helpers at slices of texts: copies, comparisons, marks, measures. -/
namespace Go.Proofs.YtachfmlfmpaddaaGreatDoor
open Go.RowKit

theorem Rd.strs {w : World} {B n : Nat} {v : Value} {xs : List ByteArray} (h : Strs w B v xs) (hn : xs.length = n) :
    ∃ a c, v = .slice a n c ∧ n ≤ c ∧ c ≤ 9223372036854775807 ∧
      ∀ i, i < n → ∃ b o x, a = some ⟨b, o, none⟩ ∧ b < B ∧ Hid (xs[i]? = some x) ∧ w.cell? ⟨b, o + i, none⟩ = some (.string x) := by
  obtain ⟨a, c, hv, h1, h2, h3⟩ := Rd.openN h (fun _ => rfl) hn
  refine ⟨a, c, hv, h1, h2, fun i hi => ?_⟩
  obtain ⟨b, o, x, ha, hb, hx, hc⟩ := h3 i hi
  exact ⟨b, o, x, ha, hb, hx, by simpa using hc 0 _ rfl⟩


theorem push_str {ops : Array Oper} {rest : List Oper} {o : Oper} {a : Act} {Q : Exit → Act → World → Prop} {w0 wr : World} (hgd : o.guard = none) (s x : Operand) (ho : o.op = .call { callee := .builtin .append, args := #[s, x], argTypes := #[28, 28] }) (B B0 : Nat) (v : Value) (acc : List ByteArray) (y : ByteArray)
    (hown : OwnS wr B v acc) (hb : Below B0 w0 wr) (hB : B ≤ wr.heap.size) (hB0 : B0 ≤ B) (hs : a.eval s = v) (hx : a.eval x = .slice (some ⟨wr.heap.size, 0, none⟩) 1 1) (hn : acc.length < 1099511627775)
    (h : ∀ v' w', OwnS w' B v' (acc ++ [y]) → Below B0 w0 w' → B ≤ w'.heap.size → wr.grownBy w' v.ownBlock ∧ (∀ g, v'.ownBlock = some g → v.ownBlock = some g ∨ wr.heap.size ≤ g) → wpList Tryz.prog ops Q rest (a.put o.dst v') w') :
    wpList Tryz.prog ops Q (o :: rest) a (wr.alloc (.cells #[.string y] 9)) := by
  obtain ⟨i0, hi, hz0, hz1, hz2⟩ := info_parts info_string
  exact wpList_push (enc := encS) hgd s x 28 ho B B0 9 i0 _ 1 16 Tryz.underlying28 hi hz0 hz1 hz2 rfl (by decide) v acc y hown hb hB hB0 hs hx rfl (by simp [Value.oneCell']) hn (by decide) h

end Go.Proofs.YtachfmlfmpaddaaGreatDoor

/- Walks: valid stores, and the text with a print. -/
namespace Go.Proofs.YtachfmlfmpaddaaGreatDoor
open Go.RowKit

theorem impl_TextValid_e (s : ByteArray) (w : World) {x : Bool} (h : textOk (bs s) = x) :
    Calls Tryz.prog 108 #[.string s] w fun e w' => e = .returned (.bool x) ∧ w = w' := h ▸ impl_TextValid_c s w

theorem impl_PrintOf_e (s : ByteArray) (w : World) {x : Int} (h : printOf (bs s) = x) :
    Calls Tryz.prog 109 #[.string s] w fun e w' => e = .returned (.int .i64 x) ∧ w = w' := h ▸ impl_PrintOf_c s w

theorem spec_TextValid_e (s : ByteArray) (w : World) {x : Bool} (hs : s.size ≤ 4611686018427387904) (h : textOk (bs s) = x) :
    Calls Tryz.prog 133 #[.string s] w fun e w' => e = .returned (.bool x) ∧ w = w' := h ▸ spec_TextValid_c s w hs

theorem spec_PrintOf_e (s : ByteArray) (w : World) {x : Int} (hs : s.size ≤ 4611686018427387904) (h : printOf (bs s) = x) :
    Calls Tryz.prog 105 #[.string s] w fun e w' => e = .returned (.int .i64 x) ∧ w = w' := h ▸ spec_PrintOf_c s w hs

theorem pcOk_no1 {r : Int} {t : ByteArray} (h : textOk (bs t) = false) (y : Bool) : (pcOk ⟨r, t⟩ && y) = false := by simp [pcOk, h]
theorem pcOk_no2 {r z : Int} {t : ByteArray} (h : printOf (bs t) = z) (hz : r ≠ z) (y : Bool) : (pcOk ⟨r, t⟩ && y) = false := by simp [pcOk, h, hz]
theorem pcOk_yes {r : Int} {t : ByteArray} (h : textOk (bs t) = true) (hz : printOf (bs t) = r) : pcOk ⟨r, t⟩ = true := by simp [pcOk, h, hz]

theorem st_step {l : List Pc} {k : Nat} {x : Pc} (h : l[k]? = some x) (h0 : stFrom (-1) (l.take k) = true) (h1 : pcOk x = true) (h2 : lastAt (-1) l k < x.print) : stFrom (-1) (l.take (k + 1)) = true := by
  rw [stFrom_succ l (-1) k _ h, h0, h1, decide_eq_true h2]; rfl
theorem st_stop {l : List Pc} {k : Nat} {x : Pc} (h : l[k]? = some x) (h2 : ¬ lastAt (-1) l k < x.print) : storeOk l = false := st_no h (by rw [decide_eq_false h2]; exact Bool.and_false _)

set_option maxHeartbeats 2000000 in
set_option maxRecDepth 100000 in
theorem impl_StoreValid_c (v : Value) (xs : List Pc) (w : World) (h : Pcs w w.heap.size v xs) :
    Calls Tryz.prog 48 #[v] w fun e w' => e = .returned (.bool (storeOk xs)) ∧ Below w.heap.size w w' := by
  obtain ⟨n, hn⟩ : ∃ n, xs.length = n := ⟨_, rfl⟩
  obtain ⟨a, c, rfl, h1, h2, h3⟩ := h.pcs hn
  have HN := hid hn
  clear hn h
  by_cases c1 : 40 < n
  · have HO := hid (st_long (l := xs) (by rw [HN.out]; exact c1))
    clear h3
    go_enter Tryz.func48, Tryz.ntmps48
    go_wp2
    go_ret
    exact ⟨ret_b HO.out.symm, Below.refl _ _⟩
  · go_enter Tryz.func48, Tryz.ntmps48
    go_wp2
    go_loopw [10] (fun i wr => ∃ k : Nat, k ≤ n ∧ i = .int .i64 k ∧ Hid (stFrom (-1) (xs.take k) = true) ∧ Below w.heap.size w wr) (fun i _ => n - (intOf i).toNat)
    case atStart => exact ⟨0, Nat.zero_le _, rfl, rfl, Below.refl _ _⟩
    case round =>
      obtain ⟨k, hk, rfl, hall, hb⟩ := hrel
      by_cases hlt : k < n
      · obtain ⟨b, o, r, t, rfl, hbl, hx, k0, k1⟩ := h3 k hlt
        have j0 := (hb.cell (p := ⟨b, o + k * 2, none⟩) hbl).trans k0
        have j1 := (hb.cell (p := ⟨b, o + k * 2 + 1, none⟩) hbl).trans k1
        have HAL : Hid (∀ cs q, Below w.heap.size w ((wr.alloc (.cells cs 60)).drewN q)) := fun cs q => bl_drewN (hb.alloc hb.size _) q
        clear k0 k1
        obtain ⟨z, hz⟩ : ∃ z, printOf (bs t) = z := ⟨_, rfl⟩
        have HZ := hid hz
        cases ht : textOk (bs t)
        · have HO := hid (st_no hx.out (pcOk_no1 ht _))
          have HT := hid ht
          clear h3 ht hz
          go_wp2
          go_quiet (first | (go_at_call 108; exact qsame (impl_TextValid_e _ _ HT.out)) | fail)
          go_wp2
          go_ret
          exact ⟨ret_b HO.out.symm, HAL.out _ _⟩
        · have HT := hid ht
          clear ht hz
          by_cases hrz : r = z
          · subst hrz
            have HP := hid (pcOk_yes (r := r) HT.out HZ.out)
            by_cases hk0 : k = 0
            · have hd0 : decide (0 < k) = false := by simp; omega
              have HS := hid (st_step hx.out hall.out HP.out (by rw [hk0, lastAt_zero]; have := (pcOk_pv HP.out).1; simp only at this ⊢; omega))
              clear h3 hk0
              go_wp2
              go_quiet (first | (go_at_call 108; exact qsame (impl_TextValid_e _ _ HT.out)) | (go_at_call 109; exact qsame (impl_PrintOf_e _ _ HZ.out)))
              go_wp2
              go_quiet (fail)
              go_wp2
              go_roundw
              case rel => exact ⟨k + 1, by omega, by go_num, HS.out, HAL.out _ _⟩
              case measure => simp [intOf]; omega
            · obtain ⟨j, hj⟩ : ∃ j, k = j + 1 := ⟨k - 1, by omega⟩
              obtain ⟨b', o', r', t', hbo, hbl', hx', k0', _⟩ := h3 j (by omega)
              simp only [Option.some.injEq, Addr.mk.injEq, and_true] at hbo
              obtain ⟨rfl, rfl⟩ := hbo
              have i0 := (hb.cell (p := ⟨b, o + j * 2, none⟩) hbl').trans k0'
              have i1 : (wr.alloc (.cells #[.int .i64 r, .string t] 60)).cell? ⟨b, o + j * 2, none⟩ = some (.int .i64 r') := (((Below.refl wr.heap.size wr).alloc (Nat.le_refl _) _).cell (p := ⟨b, o + j * 2, none⟩) (Nat.lt_of_lt_of_le hbl hb.size)).trans i0
              have hL := lastAt_succ (i := -1) hx'.out
              rw [← hj] at hL
              have hd0 : decide (0 < k) = true := by simp; omega
              have hkj : (k : Int) - 1 = (j : Int) := by omega
              have hw1 : IntKind.i64.wrap (j : Int) = (j : Int) := IntWalk.i64_in _ (by omega)
              have hjn : (j : Int) < n := by omega
              clear h3 k0' hk0 hj
              by_cases hlast : r' < r
              · have hd1 : decide (r ≤ r') = false := by simp; omega
                have HS := hid (st_step hx.out hall.out HP.out (by rw [hL]; exact hlast))
                clear hlast hL hx'
                go_wp2
                go_quiet (first | (go_at_call 108; exact qsame (impl_TextValid_e _ _ HT.out)) | (go_at_call 109; exact qsame (impl_PrintOf_e _ _ HZ.out)))
                go_wp2
                go_quiet (fail)
                go_wp2
                go_roundw
                case rel => exact ⟨k + 1, by omega, by go_num, HS.out, HAL.out _ _⟩
                case measure => simp [intOf]; omega
              · have hd1 : decide (r ≤ r') = true := by simp; omega
                have HO := hid (st_stop (l := xs) hx.out (by rw [hL]; exact hlast))
                clear hlast hL hx'
                go_wp2
                go_quiet (first | (go_at_call 108; exact qsame (impl_TextValid_e _ _ HT.out)) | (go_at_call 109; exact qsame (impl_PrintOf_e _ _ HZ.out)))
                go_wp2
                go_quiet (fail)
                go_wp2
                go_ret
                exact ⟨ret_b HO.out.symm, bl_drewN (HAL.out _ _) _⟩
          · have HO := hid (st_no hx.out (pcOk_no2 HZ.out hrz _))
            have hne : (r != z) = true := by simpa using hrz
            clear h3
            go_wp2
            go_quiet (first | (go_at_call 108; exact qsame (impl_TextValid_e _ _ HT.out)) | (go_at_call 109; exact qsame (impl_PrintOf_e _ _ HZ.out)))
            go_wp2
            go_ret
            exact ⟨ret_b HO.out.symm, HAL.out _ _⟩
      · have hall' := hall.out
        rw [take_all HN.out (show n ≤ k by omega)] at hall'
        have HO := hid (show storeOk xs = true by unfold storeOk; rw [hall', HN.out]; simp; omega)
        clear hall' h3
        go_wp2
        go_ret
        exact ⟨ret_b HO.out.symm, hb⟩

set_option maxHeartbeats 2000000 in
set_option maxRecDepth 100000 in
theorem spec_StoreValid_c (v : Value) (xs : List Pc) (B : Nat) (w : World) (h : Pcs w B v xs) (hx0 : ∀ x ∈ xs, x.text.size ≤ 1048576) (hl : xs.length ≤ 1048576) :
    Calls Tryz.prog 74 #[v] w fun e w' => e = .returned (.bool (storeOk xs)) ∧ ∃ q, w' = w.drewN q := by
  obtain ⟨n, hn⟩ : ∃ n, xs.length = n := ⟨_, rfl⟩
  obtain ⟨a, c, rfl, h1, h2, h3⟩ := h.pcs hn
  rw [hn] at hl
  have HN := hid hn
  have HX := hid hx0
  clear hn h hx0
  go_enter Tryz.func74, Tryz.ntmps74
  go_wp2
  go_loopw [3] (fun i wr => ∃ k q : Nat, k ≤ n ∧ i = .int .i64 k ∧ Hid (stFrom (-1) (xs.take k) = true) ∧ wr = w.drewN q) (fun i _ => n - (intOf i).toNat)
  case atStart => exact ⟨0, 0, Nat.zero_le _, rfl, rfl, rfl⟩
  case round =>
    obtain ⟨k, q, hk, rfl, hall, rfl⟩ := hrel
    by_cases hlt : k < n
    · obtain ⟨b, o, r, t, rfl, hbl, hx, k0, k1⟩ := h3 k hlt
      have hts : t.size ≤ 4611686018427387904 := Nat.le_trans (HX.out _ (List.mem_of_getElem? hx.out)) (by omega)
      have HTS := hid hts
      clear hts
      obtain ⟨z, hz⟩ : ∃ z, printOf (bs t) = z := ⟨_, rfl⟩
      have HZ := hid hz
      cases ht : textOk (bs t)
      · have HO := hid (st_no hx.out (pcOk_no1 ht _))
        have HT := hid ht
        clear h3 ht hz
        go_wp2
        go_quiet (first | (go_at_call 133; exact qsame (spec_TextValid_e _ _ HTS.out HT.out)) | fail)
        go_wp2
        go_ret
        exact ⟨ret_b HO.out.symm, _, World.drewN_drewN _ _ _⟩
      · have HT := hid ht
        clear ht hz
        by_cases hrz : z = r
        · subst hrz
          have HP := hid (pcOk_yes HT.out HZ.out)
          by_cases hk0 : k = 0
          · have hd0 : decide (0 < k) = false := by simp; omega
            have HS := hid (st_step hx.out hall.out HP.out (by rw [hk0, lastAt_zero]; have := (pcOk_pv HP.out).1; simp only at this ⊢; omega))
            clear h3 hk0
            go_wp2
            go_quiet (first | (go_at_call 133; exact qsame (spec_TextValid_e _ _ HTS.out HT.out)) | (go_at_call 105; exact qsame (spec_PrintOf_e _ _ HTS.out HZ.out)))
            go_wp2
            go_roundw
            case rel => exact ⟨k + 1, _, by omega, by go_num, HS.out, rfl⟩
            case measure => simp [intOf]; omega
          · obtain ⟨j, hj⟩ : ∃ j, k = j + 1 := ⟨k - 1, by omega⟩
            obtain ⟨b', o', r', t', hbo, hbl', hx', k0', _⟩ := h3 j (by omega)
            simp only [Option.some.injEq, Addr.mk.injEq, and_true] at hbo
            obtain ⟨rfl, rfl⟩ := hbo
            have hL := lastAt_succ (i := -1) hx'.out
            rw [← hj] at hL
            have hd0 : decide (0 < k) = true := by simp; omega
            have hkj : (k : Int) - 1 = (j : Int) := by omega
            have hw1 : IntKind.i64.wrap (j : Int) = (j : Int) := IntWalk.i64_in _ (by omega)
            have hjn : (j : Int) < n := by omega
            clear h3 hk0 hj
            by_cases hlast : r' < z
            · have hd1 : decide (z ≤ r') = false := by simp; omega
              have HS := hid (st_step hx.out hall.out HP.out (by rw [hL]; exact hlast))
              clear hlast hL hx'
              go_wp2
              go_quiet (first | (go_at_call 133; exact qsame (spec_TextValid_e _ _ HTS.out HT.out)) | (go_at_call 105; exact qsame (spec_PrintOf_e _ _ HTS.out HZ.out)))
              go_wp2
              go_roundw
              case rel => exact ⟨k + 1, _, by omega, by go_num, HS.out, rfl⟩
              case measure => simp [intOf]; omega
            · have hd1 : decide (z ≤ r') = true := by simp; omega
              have HO := hid (st_stop (l := xs) hx.out (by rw [hL]; exact hlast))
              clear hlast hL hx'
              go_wp2
              go_quiet (first | (go_at_call 133; exact qsame (spec_TextValid_e _ _ HTS.out HT.out)) | (go_at_call 105; exact qsame (spec_PrintOf_e _ _ HTS.out HZ.out)))
              go_wp2
              go_ret
              exact ⟨ret_b HO.out.symm, _, World.drewN_drewN _ _ _⟩
        · have HO := hid (st_no hx.out (pcOk_no2 HZ.out (Ne.symm hrz) _))
          have hne : (z != r) = true := by simpa using hrz
          clear h3
          go_wp2
          go_quiet (first | (go_at_call 133; exact qsame (spec_TextValid_e _ _ HTS.out HT.out)) | (go_at_call 105; exact qsame (spec_PrintOf_e _ _ HTS.out HZ.out)))
          go_wp2
          go_ret
          exact ⟨ret_b HO.out.symm, _, World.drewN_drewN _ _ _⟩
    · have hall' := hall.out
      rw [take_all HN.out (show n ≤ k by omega)] at hall'
      have HO := hid (show storeOk xs = decide ((n : Int) ≤ 40) by unfold storeOk; rw [hall', HN.out]; simp; omega)
      clear hall' h3
      go_wp2
      go_ret
      exact ⟨ret_b HO.out.symm, q, rfl⟩

set_option maxHeartbeats 2000000 in
set_option maxRecDepth 100000 in
theorem spec_l4Get_c (v : Value) (xs : List Pc) (y : Int) (B : Nat) (w : World) (h : Pcs w B v xs) :
    Calls Tryz.prog 103 #[v, .int .i64 y] w fun e w' => e = .returned (.tuple #[.string ((getP xs y).getD ByteArray.empty), .bool (hasP xs y)]) ∧ w = w' := by
  obtain ⟨n, hn⟩ : ∃ n, xs.length = n := ⟨_, rfl⟩
  obtain ⟨a, c, rfl, h1, h2, h3⟩ := h.pcs hn
  have HN := hid hn
  clear hn h
  go_enter Tryz.func103, Tryz.ntmps103
  go_wp2
  go_loop [6] (fun i => ∃ k : Nat, k ≤ n ∧ i = .int .i64 k ∧ Hid (∀ j x, j < k → xs[j]? = some x → x.print ≠ y)) (fun i => n - (intOf i).toNat)
  case atStart => exact ⟨0, Nat.zero_le _, rfl, hid (fun j x hj => absurd hj (by omega))⟩
  case round =>
    obtain ⟨k, hk, rfl, hall⟩ := hrel
    by_cases hlt : k < n
    · obtain ⟨b, o, r, t, rfl, hbl, hx, k0, k1⟩ := h3 k hlt
      clear h3
      by_cases hry : r = y
      · subst hry
        have HG := hid (getP_at hx.out (fun j x hj hg => hall.out j x hj hg))
        have HO := hid (show ((getP xs r).getD ByteArray.empty, hasP xs r) = (t, true) by unfold hasP; rw [HG.out]; rfl)
        go_wp2
        go_ret2
        exact ⟨by rw [(Prod.mk.inj HO.out).1, (Prod.mk.inj HO.out).2]; rfl, rfl⟩
      · have hne : (r == y) = false := by simpa using hry
        have HS := hid (show ∀ j x, j < k + 1 → xs[j]? = some x → x.print ≠ y by
          intro j x hj hg
          rcases Nat.lt_succ_iff_lt_or_eq.1 hj with h | rfl
          · exact hall.out j x h hg
          · rw [hx.out] at hg; rw [← Option.some.inj hg]; exact hry)
        clear hry
        go_wp2
        go_round
        case rel => exact ⟨k + 1, by omega, by go_num, HS.out⟩
        case measure => simp [intOf]; omega
    · have HG := hid (show getP xs y = none by
        refine getP_none (fun x hx => ?_)
        obtain ⟨j, hj, e⟩ := List.getElem_of_mem hx
        exact hall.out j x (by have := HN.out; omega) (by rw [List.getElem?_eq_getElem hj, e]))
      have HO := hid (show ((getP xs y).getD ByteArray.empty, hasP xs y) = (ByteArray.empty, false) by unfold hasP; rw [HG.out]; rfl)
      go_wp2
      go_ret2
      exact ⟨by rw [(Prod.mk.inj HO.out).1, (Prod.mk.inj HO.out).2]; rfl, rfl⟩

end Go.Proofs.YtachfmlfmpaddaaGreatDoor
