/- Walks: drawn texts. -/
import Derived.Test.YtdfkiphdieoaaaaDraw
import Derived.Deep.RegionWith
import Derived.Deep.OwnRows
import Derived.Laws.IdiomStrings
import Derived.WalkSpells
import Derived.Laws.Concat
namespace Go.Proofs.Ytdfkiphdieoaaaa
open Go.RowKit

def Z61 : Array Value := madeCells #[.int .u8 0] 61
def S61 : ByteArray := ⟨(List.replicate 61 (0 : UInt8)).toArray⟩
theorem z61_get (j : Nat) (h : j < 61) : Z61[j]? = some (.int .u8 0) := by
  unfold Z61 madeCells
  simp [h, Nat.mod_one]
theorem run_make61 (W : World) : (Instr.makeSlice 36 (.int .i64 61) (.int .i64 61)).run Try.prog W = .ok (.slice (some ⟨W.heap.size, 0, none⟩) 61 61) (W.alloc (.cells Z61 5)) :=
  run_make_row' 36 5 (.int .u8 0) 1 Try.underlying36 (by kernel_rfl) rfl .i64 .i64 61 (by omega) (by omega) W
theorem run_conv61 (W : World) (b : Nat) (h : W.heap[b]? = some (.cells Z61 5 (0, 0))) : (convert 36 9 (.slice (some ⟨b, 0, none⟩) 61 61)).run Try.prog W = .ok (.string S61) W := by
  have := run_convert_bytes_back (P := Try.prog) W 36 9 5 ⟨b, 0, none⟩ 61 (List.replicate 61 (0 : UInt8)) Try.underlying36 Try.underlying5 Try.underlying9 (fun j hj => by
    have hj' : j < 61 := by simpa using hj
    have hadd : (⟨b, 0, none⟩ : Addr).add j = ⟨b, j, none⟩ := by unfold Addr.add; split <;> simp_all
    rw [hadd]
    simp only [World.cell?, h, List.getElem_replicate]
    simpa using z61_get j hj')
  simpa [S61] using this

theorem second_heap (w : World) (o o' : Obj) : ((w.alloc o).alloc o').heap[w.heap.size + 1]? = some o' := by
  have := heap_alloc_new (w.alloc o) o'
  simpa using this
theorem some_ne {a b : Nat} (h : a ≠ b) : some a ≠ some b := fun e => h (Option.some.inj e)
theorem gb_undrew {w w' : World} {r : Option Nat} (h : w.drew.grownBy w' r) : w.grownBy w' r := ⟨h.os, h.tape, h.output, h.size, h.block⟩
theorem gb_drew {w w' : World} {r : Option Nat} (h : w.grownBy w' r) : w.grownBy w'.drew r := ⟨h.os, h.tape, h.output, h.size, h.block⟩
theorem gb_alloc {w w' : World} {r : Option Nat} (h : w.grownBy w' r) (o : Obj) : w.grownBy (w'.alloc o) r := h.trans (World.grownBy_alloc w' o r)
theorem gb_unalloc {w w' : World} {r : Option Nat} {o : Obj} (h : (w.alloc o).grownBy w' r) : w.grownBy w' r := (World.grownBy_alloc w o r).trans h

/-- Texts of at most B bytes each. -/
def allStr (B : Nat) (l : List Value) : Bool := l.all fun v => match v with | .string s => decide (s.size ≤ B) | _ => false
theorem allStr_get {B : Nat} {cs : Array Value} (h : allStr B cs.toList = true) {j : Nat} (hj : j < cs.size) : ∃ s : ByteArray, cs[j]? = some (.string s) ∧ s.size ≤ B := by
  have hm : cs[j] ∈ cs.toList := by simp
  have h1 := List.all_eq_true.1 h _ hm
  rw [Array.getElem?_eq_getElem hj]
  cases hv : cs[j] with
  | string s => rw [hv] at h1; exact ⟨s, rfl, of_decide_eq_true h1⟩
  | _ => rw [hv] at h1; cases h1
theorem str_cell {B : Nat} {cs : Array Value} {t : TypeId} (h : allStr B cs.toList = true) {j : Nat} (hj : j < cs.size) : ∃ s : ByteArray, s.size ≤ B ∧ cs[j]? = some (.string s) ∧
    (∀ (W : World) (b : Nat), W.heap[b]? = some (.cells cs t (0, 0)) → W.cell? ⟨b, j, none⟩ = some (.string s)) ∧
    (∀ W : World, (W.alloc (.cells cs t)).cell? ⟨W.heap.size, j, none⟩ = some (.string s)) ∧ (∀ (W : World) (o : Obj), ((W.alloc o).alloc (.cells cs t)).cell? ⟨W.heap.size + 1, j, none⟩ = some (.string s)) := by
  obtain ⟨s, hs, hB⟩ := allStr_get h hj
  have h0 : ∀ (W : World) (b : Nat), W.heap[b]? = some (.cells cs t (0, 0)) → W.cell? ⟨b, j, none⟩ = some (.string s) := fun W b hW => by simp [World.cell?, hW, hs]
  exact ⟨s, hB, hs, h0, fun W => h0 _ _ (heap_alloc_new _ _), fun W o => h0 _ _ (second_heap _ _ _)⟩

/-- A text of at most B bytes; the reader has been asked at most k times more. -/
def Texted (B k : Nat) (w : World) (g : Nat) (l : List Int) (p : Nat) (e : Ending) (w' : World) : Prop :=
  ∃ (s : ByteArray) (p' : Nat), e = .returned (.string s) ∧ s.size ≤ B ∧ p' ≤ p + k ∧ Reader w' g l p' ∧ w.grownBy w' (some g)

set_option maxHeartbeats 2000000 in
theorem spec_l20Text_c (g p : Nat) (l : List Int) (n : Int) (w : World) (h : Reader w g l p) (hp : p ≤ 109951162777) (hn0 : 0 ≤ n) (hn9 : n ≤ 1000000) :
    Calls Try.prog 40 #[.pointer (some ⟨g, 0, none⟩), .int .i64 n] w (Texted 61 2 w g l p) := by
  go_enter Try.func40, Try.ntmps40
  go_wp2_with fail
  refine (spec_odd_c g p l n _ h (by omega) hn0 hn9).mono ?_
  rintro e w1 ⟨x, p1, rfl, _, hp1, r1, g1⟩
  have hgl : g < w1.heap.size := r1.lt
  have R := hid r1
  have G1 := hid g1
  clear r1 h g1
  cases x
  · go_wp2_with fail
    refine (spec_pick_c g p1 l 8 _ (R.out.alloc _) (by omega)).mono ?_
    rintro e w2 ⟨x, rfl, x0, x3, _, r2, g2⟩
    have hh := (g2.block w1.heap.size (by simp) (some_ne (by omega))).trans (heap_alloc_new w1 _)
    have x3' := x3 (by omega)
    obtain ⟨j, rfl⟩ : ∃ j : Nat, x = j := ⟨x.toNat, by omega⟩
    have hj : j < 8 := by omega
    obtain ⟨s, hs, _, h0, _, _⟩ := str_cell (B := 61) (t := 9) (cs := #[.string ⟨#[]⟩, .string ⟨#[97]⟩, .string ⟨#[104, 101, 108, 108, 111, 32, 119, 111, 114, 108, 100]⟩, .string ⟨#[102, 104, 105]⟩, .string ⟨#[100]⟩, .string ⟨#[114, 101, 100, 32, 103, 114, 101, 101, 110, 32, 114, 101, 100]⟩, .string ⟨#[100, 97, 61, 49, 54, 50, 59]⟩, .string ⟨#[48, 49, 50, 51, 52, 53, 54, 55, 56, 57, 48, 49, 50, 51, 52, 53, 54, 55, 56, 57, 48, 49, 50, 51, 52, 53, 54, 55, 56, 57, 48, 49, 50, 51, 52, 53, 54, 55, 56, 57, 48, 49, 50, 51, 52, 53, 54, 55, 56, 57, 48, 49, 50, 51, 52, 53, 54, 55, 56, 57]⟩]) (by rfl) hj
    have hc := h0 _ _ hh
    clear h0 hh x3
    have G2 := hid g2
    have R2 := hid r2
    clear g2 r2
    go_wp2
    go_ret
    exact ⟨_, _, rfl, hs, by omega, R2.out, G1.out.trans (gb_unalloc G2.out)⟩
  · have m1 := run_make61
    have m3 : ∀ W : World, (convert 36 9 (.slice (some ⟨W.heap.size, 0, none⟩) 61 61)).run Try.prog (W.alloc (.cells Z61 5)).drew = .ok (.string S61) (W.alloc (.cells Z61 5)).drew := fun W => run_conv61 _ _ (heap_alloc_new _ _)
    have m4 : ∀ W : World, (convert 36 9 (.slice (some ⟨W.heap.size, 0, none⟩) 61 61)).run Try.prog (W.alloc (.cells Z61 5)) = .ok (.string S61) (W.alloc (.cells Z61 5)) := fun W => run_conv61 _ _ (heap_alloc_new _ _)
    go_wp2
    go_region_with (first
      | (go_at_call 36; refine (spec_pick_c g p1 l 3 _ ?_ (by omega)).mono ?_; (exact (R.out.alloc (.cells Z61 5)).alloc (.cells #[.string ⟨#[10]⟩, .string S61, .string ⟨#[97, 127]⟩] 9)); rintro e w2 ⟨x, rfl, x0, x3, _, r2, g2⟩; have hh := (g2.block (w1.heap.size + 1) (by simp) (some_ne (by omega))).trans (second_heap w1 _ _); have x3' := x3 (by omega); clear x3; (obtain ⟨j, rfl⟩ : ∃ j : Nat, x = j := ⟨x.toNat, by omega⟩); have hj : j < 3 := (by omega); obtain ⟨s, hs, _, h0, _, _⟩ := str_cell (B := 61) (t := 9) (cs := #[.string ⟨#[10]⟩, .string S61, .string ⟨#[97, 127]⟩]) (by rfl) hj; have hc := h0 _ _ hh; have HS := hid hs; clear h0 hh hs)
      | (go_at_call 36; refine (spec_pick_c g p1 l 3 _ ?_ (by omega)).mono ?_; (exact R.out.alloc (.cells Z61 5)); rintro e w2 ⟨x, rfl, x0, x3, _, r2, g2⟩; have hh := (g2.block w1.heap.size (by simp) (some_ne (by omega))).trans (heap_alloc_new w1 _); have m5 := run_conv61 w2 _ hh; have m6 := run_conv61 w2.drew _ hh; have x3' := x3 (by omega); clear x3; (obtain ⟨j, rfl⟩ : ∃ j : Nat, x = j := ⟨x.toNat, by omega⟩); have hj : j < 3 := (by omega); obtain ⟨s, hs, _, _, hS, hS'⟩ := str_cell (B := 61) (t := 9) (cs := #[.string ⟨#[10]⟩, .string S61, .string ⟨#[97, 127]⟩]) (by rfl) hj; have HS := hid hs; clear hs hh)
      | (go_at_call 36; refine (spec_pick_c g p1 l 3 _ ?_ (by omega)).mono ?_; (exact R.out); rintro e w2 ⟨x, rfl, x0, x3, _, r2, g2⟩; have x3' := x3 (by omega); clear x3; (obtain ⟨j, rfl⟩ : ∃ j : Nat, x = j := ⟨x.toNat, by omega⟩); have hj : j < 3 := (by omega); obtain ⟨s, hs, _, _, hS, hS'⟩ := str_cell (B := 61) (t := 9) (cs := #[.string ⟨#[10]⟩, .string S61, .string ⟨#[97, 127]⟩]) (by rfl) hj; have HS := hid hs; clear hs))
    all_goals
      have GG : w.grownBy w2 (some g) := by first | exact G1.out.trans g2 | exact G1.out.trans (gb_undrew g2) | exact G1.out.trans (gb_unalloc g2) | exact G1.out.trans (gb_unalloc (gb_undrew g2)) | exact G1.out.trans (gb_unalloc (gb_unalloc g2)) | exact G1.out.trans (gb_unalloc (gb_unalloc (gb_undrew g2)))
      have RR := hid r2
      have HG := hid GG
      clear g2 GG r2
      go_wp2
      go_ret
      exact ⟨_, p1 + 1, rfl, HS.out, by omega, by first | exact RR.out | exact RR.out.alloc _ | exact (RR.out.alloc _).alloc _, by first | exact HG.out | exact gb_drew HG.out | exact gb_alloc HG.out _ | exact gb_drew (gb_alloc HG.out _) | exact gb_alloc (gb_alloc HG.out _) _ | exact gb_drew (gb_alloc (gb_alloc HG.out _) _)⟩

set_option maxHeartbeats 2000000 in
theorem spec_l20Long_c (g p : Nat) (l : List Int) (n : Int) (w : World) (h : Reader w g l p) (hp : p ≤ 10995116277) (hn0 : 0 ≤ n) (hn9 : n ≤ 1000000) :
    Calls Try.prog 37 #[.pointer (some ⟨g, 0, none⟩), .int .i64 n] w (Texted 100 24 w g l p) := by
  go_enter Try.func37, Try.ntmps37
  go_wp2_with fail
  refine (spec_pick_c g p l 20 _ h (by omega)).mono ?_
  rintro e w1 ⟨x, rfl, x0, x3, _, r1, g1⟩
  have x3' := x3 (by omega)
  obtain ⟨m, rfl⟩ : ∃ m : Nat, x = m := ⟨x.toNat, by omega⟩
  have R1 := hid r1
  have G1 := hid g1
  clear x3 r1 h g1
  go_wp2
  go_loopw [5, 6] (fun out k wr => ∃ (q p' : Nat) (s : ByteArray), q ≤ m ∧ k = .int .i64 q ∧ out = .string s ∧ s.size + 2 * q ≤ 2 * m ∧ p' + q ≤ p + 1 + m ∧ Hid (Reader wr g l p') ∧ Hid (w.grownBy wr (some g))) (fun _ k _ => (intOf k).toNat)
  case atStart => exact ⟨m, p + 1, _, Nat.le_refl _, rfl, rfl, by simp [ByteArray.size], by omega, R1.out, G1.out⟩
  case round =>
    obtain ⟨q, p', s, hq, rfl, rfl, hs, hp', R, G⟩ := hrel
    have hgl : g < wr.heap.size := R.out.lt
    by_cases hq0 : 0 < q
    · go_wp2_with fail
      refine (spec_pick_c g p' l 6 _ (R.out.alloc _) (by omega)).mono ?_
      rintro e w2 ⟨x, rfl, y0, y3, _, r2, g2⟩
      have hh := (g2.block wr.heap.size (by simp) (some_ne (by omega))).trans (heap_alloc_new wr _)
      have y3' := y3 (by omega)
      obtain ⟨j, rfl⟩ : ∃ j : Nat, x = j := ⟨x.toNat, by omega⟩
      have hj : j < 6 := by omega
      obtain ⟨u, hu, _, h0, _, _⟩ := str_cell (B := 2) (t := 9) (cs := #[.string ⟨#[97]⟩, .string ⟨#[100]⟩, .string ⟨#[97, 98]⟩, .string ⟨#[104]⟩, .string ⟨#[109]⟩, .string ⟨#[32]⟩]) (by rfl) hj
      have hc := h0 _ _ hh
      have G2 := hid (G.out.trans (gb_unalloc g2))
      have R2 := hid r2
      clear g2 r2 h0 hh y3 R G
      go_wp2
      go_roundw
      case rel => exact ⟨q - 1, p' + 1, s ++ u, by omega, by go_num, rfl, by rw [ByteArray.size_append]; omega, by omega, R2, G2⟩
      case measure => simp [intOf]; omega
    · go_wp2_with fail
      refine (spec_odd_c g p' l n _ R.out (by omega) hn0 hn9).mono ?_
      rintro e w2 ⟨x, p2, rfl, _, hp2, r2, g2⟩
      have R2 := hid r2
      have G2 := hid (G.out.trans g2)
      clear r2 g2 R G
      cases x
      · go_wp2
        go_ret
        exact ⟨_, p2, rfl, by omega, by omega, R2.out, G2.out⟩
      · go_wp2_with fail
        refine (spec_l20Text_c g p2 l 1 _ R2.out (by omega) (by omega) (by omega)).mono ?_
        rintro e w3 ⟨u, p3, rfl, hu, hp3, r3, g3⟩
        have R3 := hid r3
        have G3 := hid (G2.out.trans g3)
        clear r3 g3 R2 G2
        go_wp2
        go_ret
        exact ⟨_, p3, rfl, by omega, by omega, R3.out, G3.out⟩

end Go.Proofs.Ytdfkiphdieoaaaa
