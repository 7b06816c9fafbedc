/- Walks and plain facts, joined: PrintP, DrawT, InvI. -/
import Derived.Test.YtachfmlfmpaddaaGreatDoorMg5
import Derived.Deep.RegionWith
import Derived.Deep.OwnRows
import Derived.Laws.IdiomStrings
import Derived.WalkSpells
import Derived.Laws.Concat
set_option linter.unusedVariables false
set_option linter.unusedSimpArgs false

/- Plain facts on prints and seals. No program in sight. -/
namespace Go.Proofs.YtachfmlfmpaddaaGreatDoor
open Go.RowKit

def prStep (n : Int) (c : UInt8) : Int := (n * 257 + c.toNat) % 16777213
def prFold (l : List UInt8) : Int := l.foldl prStep 1
def printOf (l : List UInt8) : Int := if textOk l then prFold l else -1
theorem prStep_in (n : Int) (c : UInt8) : 0 ≤ prStep n c ∧ prStep n c ≤ 16777212 := by
  unfold prStep
  have h1 := Int.emod_nonneg (n * 257 + c.toNat) (show (16777213 : Int) ≠ 0 by decide)
  have h2 := Int.emod_lt_of_pos (n * 257 + c.toNat) (show (0 : Int) < 16777213 by decide)
  omega
theorem prFold_in (l : List UInt8) : 0 ≤ prFold l ∧ prFold l ≤ 16777212 := by
  unfold prFold
  have : ∀ (l : List UInt8) (n : Int), 0 ≤ n ∧ n ≤ 16777212 → 0 ≤ l.foldl prStep n ∧ l.foldl prStep n ≤ 16777212 := by
    intro l
    induction l with
    | nil => intro n h; exact h
    | cons c r ih => intro n _; exact ih _ (prStep_in n c)
  exact this l 1 (by omega)
theorem printOf_in {l : List UInt8} (h : textOk l = true) : pv (printOf l) = true := by
  unfold printOf
  rw [if_pos h]
  exact inB_iff.2 (prFold_in l)
theorem pv_iff {n : Int} : pv n = true ↔ 0 ≤ n ∧ n ≤ 16777212 := inB_iff
/-! ### Versions and seals -/
end Go.Proofs.YtachfmlfmpaddaaGreatDoor

/- Walks: drawn texts. -/
namespace Go.Proofs.YtachfmlfmpaddaaGreatDoor
open Go.RowKit

def Z61 : Array Value := madeCells #[.int .u8 0] 61
def S61 : ByteArray := ⟨(List.replicate 61 (0 : UInt8)).toArray⟩
theorem z61_get (j : Nat) (h : j < 61) : Z61[j]? = some (.int .u8 0) := by
  unfold Z61 madeCells
  simp [h, Nat.mod_one]
theorem run_make61 (W : World) : (Instr.makeSlice 22 (.int .i64 61) (.int .i64 61)).run Tryz.prog W = .ok (.slice (some ⟨W.heap.size, 0, none⟩) 61 61) (W.alloc (.cells Z61 5)) :=
  run_make_row' 22 5 (.int .u8 0) 1 Tryz.underlying22 (by kernel_rfl) rfl .i64 .i64 61 (by omega) (by omega) W
theorem run_conv61 (W : World) (b : Nat) (h : W.heap[b]? = some (.cells Z61 5 (0, 0))) : (convert 22 9 (.slice (some ⟨b, 0, none⟩) 61 61)).run Tryz.prog W = .ok (.string S61) W := by
  have := run_convert_bytes_back (P := Tryz.prog) W 22 9 5 ⟨b, 0, none⟩ 61 (List.replicate 61 (0 : UInt8)) Tryz.underlying22 Tryz.underlying5 Tryz.underlying9 (fun j hj => by
    have hj' : j < 61 := by simpa using hj
    have hadd : (⟨b, 0, none⟩ : Addr).add j = ⟨b, j, none⟩ := by unfold Addr.add; split <;> simp_all
    rw [hadd]
    simp only [World.cell?, h, List.getElem_replicate]
    simpa using z61_get j hj')
  simpa [S61] using this

theorem second_heap (w : World) (o o' : Obj) : ((w.alloc o).alloc o').heap[w.heap.size + 1]? = some o' := by
  have := heap_alloc_new (w.alloc o) o'
  simpa using this
theorem some_ne {a b : Nat} (h : a ≠ b) : some a ≠ some b := fun e => h (Option.some.inj e)
theorem gb_undrew {w w' : World} {r : Option Nat} (h : w.drew.grownBy w' r) : w.grownBy w' r := ⟨h.os, h.tape, h.output, h.size, h.block⟩
theorem gb_drew {w w' : World} {r : Option Nat} (h : w.grownBy w' r) : w.grownBy w'.drew r := ⟨h.os, h.tape, h.output, h.size, h.block⟩
theorem gb_alloc {w w' : World} {r : Option Nat} (h : w.grownBy w' r) (o : Obj) : w.grownBy (w'.alloc o) r := h.trans (World.grownBy_alloc w' o r)
theorem gb_unalloc {w w' : World} {r : Option Nat} {o : Obj} (h : (w.alloc o).grownBy w' r) : w.grownBy w' r := (World.grownBy_alloc w o r).trans h

/-- Texts of at most B bytes each. -/
def allStr (B : Nat) (l : List Value) : Bool := l.all fun v => match v with | .string s => decide (s.size ≤ B) | _ => false
theorem allStr_get {B : Nat} {cs : Array Value} (h : allStr B cs.toList = true) {j : Nat} (hj : j < cs.size) : ∃ s : ByteArray, cs[j]? = some (.string s) ∧ s.size ≤ B := by
  have hm : cs[j] ∈ cs.toList := by simp
  have h1 := List.all_eq_true.1 h _ hm
  rw [Array.getElem?_eq_getElem hj]
  cases hv : cs[j] with
  | string s => rw [hv] at h1; exact ⟨s, rfl, of_decide_eq_true h1⟩
  | _ => rw [hv] at h1; cases h1
theorem str_cell {B : Nat} {cs : Array Value} {t : TypeId} (h : allStr B cs.toList = true) {j : Nat} (hj : j < cs.size) : ∃ s : ByteArray, s.size ≤ B ∧ cs[j]? = some (.string s) ∧
    (∀ (W : World) (b : Nat), W.heap[b]? = some (.cells cs t (0, 0)) → W.cell? ⟨b, j, none⟩ = some (.string s)) ∧
    (∀ W : World, (W.alloc (.cells cs t)).cell? ⟨W.heap.size, j, none⟩ = some (.string s)) ∧ (∀ (W : World) (o : Obj), ((W.alloc o).alloc (.cells cs t)).cell? ⟨W.heap.size + 1, j, none⟩ = some (.string s)) := by
  obtain ⟨s, hs, hB⟩ := allStr_get h hj
  have h0 : ∀ (W : World) (b : Nat), W.heap[b]? = some (.cells cs t (0, 0)) → W.cell? ⟨b, j, none⟩ = some (.string s) := fun W b hW => by simp [World.cell?, hW, hs]
  exact ⟨s, hB, hs, h0, fun W => h0 _ _ (heap_alloc_new _ _), fun W o => h0 _ _ (second_heap _ _ _)⟩

/-- A text of at most B bytes; the reader has been asked at most k times more. -/
def Texted (B k : Nat) (w : World) (g : Nat) (l : List Int) (p : Nat) (e : Ending) (w' : World) : Prop :=
  ∃ (s : ByteArray) (p' : Nat), e = .returned (.string s) ∧ s.size ≤ B ∧ p' ≤ p + k ∧ Reader w' g l p' ∧ w.grownBy w' (some g)

set_option maxHeartbeats 2000000 in
set_option maxRecDepth 100000 in
theorem spec_l20Text_c (g p : Nat) (l : List Int) (n : Int) (w : World) (h : Reader w g l p) (hp : p ≤ 109951162777) (hn0 : 0 ≤ n) (hn9 : n ≤ 1000000) :
    Calls Tryz.prog 100 #[.pointer (some ⟨g, 0, none⟩), .int .i64 n] w (Texted 61 2 w g l p) := by
  go_enter Tryz.func100, Tryz.ntmps100
  go_wp2_with fail
  refine (spec_odd_c g p l n _ h (by omega) hn0 hn9).mono ?_
  rintro e w1 ⟨x, p1, rfl, _, hp1, r1, g1⟩
  have hgl : g < w1.heap.size := r1.lt
  have R := hid r1
  have G1 := hid g1
  clear r1 h g1
  cases x
  · go_wp2_with fail
    refine (spec_pick_c g p1 l 8 _ (R.out.alloc _) (by omega)).mono ?_
    rintro e w2 ⟨x, rfl, x0, x3, _, r2, g2⟩
    have hh := (g2.block w1.heap.size (by simp) (some_ne (by omega))).trans (heap_alloc_new w1 _)
    have x3' := x3 (by omega)
    obtain ⟨j, rfl⟩ : ∃ j : Nat, x = j := ⟨x.toNat, by omega⟩
    have hj : j < 8 := by omega
    obtain ⟨s, hs, _, h0, _, _⟩ := str_cell (B := 61) (t := 9) (cs := #[.string ⟨#[]⟩, .string ⟨#[97]⟩, .string ⟨#[104, 101, 108, 108, 111, 32, 119, 111, 114, 108, 100]⟩, .string ⟨#[102, 104, 105]⟩, .string ⟨#[100]⟩, .string ⟨#[114, 101, 100, 32, 103, 114, 101, 101, 110, 32, 114, 101, 100]⟩, .string ⟨#[100, 97, 61, 49, 54, 50, 59]⟩, .string ⟨#[48, 49, 50, 51, 52, 53, 54, 55, 56, 57, 48, 49, 50, 51, 52, 53, 54, 55, 56, 57, 48, 49, 50, 51, 52, 53, 54, 55, 56, 57, 48, 49, 50, 51, 52, 53, 54, 55, 56, 57, 48, 49, 50, 51, 52, 53, 54, 55, 56, 57, 48, 49, 50, 51, 52, 53, 54, 55, 56, 57]⟩]) (by rfl) hj
    have hc := h0 _ _ hh
    clear h0 hh x3
    have G2 := hid g2
    have R2 := hid r2
    clear g2 r2
    go_wp2
    go_ret
    exact ⟨_, _, rfl, hs, by omega, R2.out, G1.out.trans (gb_unalloc G2.out)⟩
  · have m1 := run_make61
    have m3 : ∀ W : World, (convert 22 9 (.slice (some ⟨W.heap.size, 0, none⟩) 61 61)).run Tryz.prog (W.alloc (.cells Z61 5)).drew = .ok (.string S61) (W.alloc (.cells Z61 5)).drew := fun W => run_conv61 _ _ (heap_alloc_new _ _)
    have m4 : ∀ W : World, (convert 22 9 (.slice (some ⟨W.heap.size, 0, none⟩) 61 61)).run Tryz.prog (W.alloc (.cells Z61 5)) = .ok (.string S61) (W.alloc (.cells Z61 5)) := fun W => run_conv61 _ _ (heap_alloc_new _ _)
    go_wp2
    go_region_with (first
      | (go_at_call 101; refine (spec_pick_c g p1 l 3 _ ?_ (by omega)).mono ?_; (exact (R.out.alloc (.cells Z61 5)).alloc (.cells #[.string ⟨#[10]⟩, .string S61, .string ⟨#[97, 127]⟩] 9)); rintro e w2 ⟨x, rfl, x0, x3, _, r2, g2⟩; have hh := (g2.block (w1.heap.size + 1) (by simp) (some_ne (by omega))).trans (second_heap w1 _ _); have x3' := x3 (by omega); clear x3; (obtain ⟨j, rfl⟩ : ∃ j : Nat, x = j := ⟨x.toNat, by omega⟩); have hj : j < 3 := (by omega); obtain ⟨s, hs, _, h0, _, _⟩ := str_cell (B := 61) (t := 9) (cs := #[.string ⟨#[10]⟩, .string S61, .string ⟨#[97, 127]⟩]) (by rfl) hj; have hc := h0 _ _ hh; have HS := hid hs; clear h0 hh hs)
      | (go_at_call 101; refine (spec_pick_c g p1 l 3 _ ?_ (by omega)).mono ?_; (exact R.out.alloc (.cells Z61 5)); rintro e w2 ⟨x, rfl, x0, x3, _, r2, g2⟩; have hh := (g2.block w1.heap.size (by simp) (some_ne (by omega))).trans (heap_alloc_new w1 _); have m5 := run_conv61 w2 _ hh; have m6 := run_conv61 w2.drew _ hh; have x3' := x3 (by omega); clear x3; (obtain ⟨j, rfl⟩ : ∃ j : Nat, x = j := ⟨x.toNat, by omega⟩); have hj : j < 3 := (by omega); obtain ⟨s, hs, _, _, hS, hS'⟩ := str_cell (B := 61) (t := 9) (cs := #[.string ⟨#[10]⟩, .string S61, .string ⟨#[97, 127]⟩]) (by rfl) hj; have HS := hid hs; clear hs hh)
      | (go_at_call 101; refine (spec_pick_c g p1 l 3 _ ?_ (by omega)).mono ?_; (exact R.out); rintro e w2 ⟨x, rfl, x0, x3, _, r2, g2⟩; have x3' := x3 (by omega); clear x3; (obtain ⟨j, rfl⟩ : ∃ j : Nat, x = j := ⟨x.toNat, by omega⟩); have hj : j < 3 := (by omega); obtain ⟨s, hs, _, _, hS, hS'⟩ := str_cell (B := 61) (t := 9) (cs := #[.string ⟨#[10]⟩, .string S61, .string ⟨#[97, 127]⟩]) (by rfl) hj; have HS := hid hs; clear hs))
    all_goals
      have GG : w.grownBy w2 (some g) := by first | exact G1.out.trans g2 | exact G1.out.trans (gb_undrew g2) | exact G1.out.trans (gb_unalloc g2) | exact G1.out.trans (gb_unalloc (gb_undrew g2)) | exact G1.out.trans (gb_unalloc (gb_unalloc g2)) | exact G1.out.trans (gb_unalloc (gb_unalloc (gb_undrew g2)))
      have RR := hid r2
      have HG := hid GG
      clear g2 GG r2
      go_wp2
      go_ret
      exact ⟨_, p1 + 1, rfl, HS.out, by omega, by first | exact RR.out | exact RR.out.alloc _ | exact (RR.out.alloc _).alloc _, by first | exact HG.out | exact gb_drew HG.out | exact gb_alloc HG.out _ | exact gb_drew (gb_alloc HG.out _) | exact gb_alloc (gb_alloc HG.out _) _ | exact gb_drew (gb_alloc (gb_alloc HG.out _) _)⟩


end Go.Proofs.YtachfmlfmpaddaaGreatDoor

/- A region that draws its order, held by an invariant that knows which operations are done; what waits for an operation, over others too, has not come up ahead of it. No program in sight. -/
namespace Go.Proofs.YtachfmlfmpaddaaGreatDoor
open Go.RowKit

section
variable {P : Program} {ops : Array Oper}
theorem wp_region_inv2i {id : Nat} {Q : Exit → Act → World → Prop} {a0 : Act} {w0 : World} (hm : P.follows .mixedOrders = true) (hp : plainG ops = true) (hgB : guardB ops = true) (hback : backB ops = true) (hptr : ptrB ops = true)
    (hdst : (ops.all fun o => match o.dst with | some t => decide (t < a0.tmps.size) | none => true) = true)
    (J : (Nat → Bool) → Nat → World → Prop) (S : Nat → World → World → Prop) (F : Nat → Value → World → Prop) (cons : Nat → Nat → Bool) (hJ : J (fun _ => false) 0 w0.drew) (hF : ∀ j i v w w', S j w w' → cons j i = false → i ≠ j → reachT ops 6 i j = false → (∀ oj, ops[j]? = some oj → ∀ e ∈ oj.after, Region.binds .any e = true → cons e.on i = false) → F i v w → F i v w')
    (hgrd : ∀ (i : Nat) (o : Oper) (d : Nat) (b : Bool), ops[i]? = some o → o.guard = some (d, b) → ∀ v w, F d v w → v = .bool b)
    (hop : ∀ (i : Nat) (o : Oper), ops[i]? = some o → ∀ (L : Nat → Bool) (n : Nat) (a : Act) (w : World), n < ops.size → L i = false → J L n w →
      (∀ t, freshT ops i t = true → a.tmps.getD t undef = a0.tmps.getD t undef) →
      (∀ e ∈ o.after, Region.binds .any e = true → (∀ j, j < ops.size → cons j e.on = true → j = i) → F e.on (slotOf2 ops e.on a) w) →
      o.wp P a w (fun a' w' => ∃ v, a' = a.put o.dst v ∧ J (fun k => if k = i then true else L k) (n + 1) w' ∧ S i w w' ∧ F i (if o.dst.isSome then v else slotOf2 ops i a) w') Q)
    (hcg : ∀ (i : Nat) (o : Oper) (d : Nat) (b : Bool), ops[i]? = some o → o.guard = some (d, b) → ∀ j, cons j d = false)
    (hend : ∀ (a : Act) (w : World), (∃ L : Nat → Bool, (∀ i, i < ops.size → L i = true) ∧ J L ops.size w) → a.tmps.size = a0.tmps.size → a.defers = a0.defers → (∀ t, looseB ops t = true → a.tmps.getD t undef = a0.tmps.getD t undef) → (∀ (i : Nat) (o : Oper), ops[i]? = some o → (∀ j, cons j i = false) → F i (slotOf2 ops i a) w) → Q .normal a w) :
    (Code.region id ops true).wp P Q a0 w0 := by
  refine wp_region_any hm ?_
  have hdst' : ∀ (i : Nat) (o : Oper) (t : Tmp), ops[i]? = some o → o.dst = some t → t < a0.tmps.size := by
    intro i o t hi ht
    have hlt := (Array.getElem?_eq_some_iff.1 hi)
    obtain ⟨hlt, he⟩ := hlt
    have h1 := Array.all_eq_true.1 hdst i hlt
    rw [he, ht] at h1
    exact of_decide_eq_true h1
  have hback' : ∀ (i : Nat) (o : Oper), ops[i]? = some o → ∀ e ∈ o.after, Region.binds .any e = true → e.on < i := by
    intro i o hi e he hbe
    have h1 := List.all_eq_true.1 hback i (List.mem_range.2 (Array.getElem?_eq_some_iff.1 hi).1)
    simp only [hi] at h1
    obtain ⟨k, hk, hke⟩ := Array.getElem_of_mem he
    have h2 := Array.all_eq_true.1 h1 k hk
    rw [hke, hbe] at h2
    exact of_decide_eq_true (by simpa using h2)
  suffices H : ∀ (f n : Nat) (listed : Array Bool) (a : Act) (w : World), listed.size = ops.size → listed.toList.count false = f → n + f = ops.size → J (fun k => listed.getD k false) n w → a.tmps.size = a0.tmps.size → a.defers = a0.defers →
      (∀ j o, ops[j]? = some o → listed.getD j false = true → ∀ e ∈ o.after, Region.binds .any e = true → listed.getD e.on false = true) →
      (∀ t, (∀ (i : Nat) (o : Oper), ops[i]? = some o → listed.getD i false = true → o.dst ≠ some t) → a.tmps.getD t undef = a0.tmps.getD t undef) →
      (∀ (i : Nat) (o : Oper), ops[i]? = some o → listed.getD i false = true → (∀ j, listed.getD j false = true → cons j i = false) → F i (slotOf2 ops i a) w) → wpAny P .any ops Q f listed a w by
    have hJ' : J (fun k => (Array.replicate ops.size false).getD k false) 0 w0.drew := by
      have e : (fun k => (Array.replicate ops.size false).getD k false) = fun _ => false := funext fun k => getD_replicate_false _ _
      rw [e]; exact hJ
    refine H _ 0 _ _ _ (by simp) (by simp) (by simp) hJ' rfl rfl ?_ ?_ ?_
    · intro j o _ h; rw [getD_replicate_false] at h; cases h
    · intro t _; rfl
    · intro i o _ h; rw [getD_replicate_false] at h; cases h
  intro f
  induction f with
  | zero =>
    intro n listed a w hs hc hnf hj hsz hdf _ hsame hhold
    obtain rfl : n = ops.size := by omega
    have hall : ∀ i, i < ops.size → listed.getD i false = true := by
      intro i hi
      have hnot : false ∉ listed.toList := List.count_eq_zero.1 hc
      rw [Array.getD_eq_getD_getElem?, Array.getElem?_eq_getElem (by omega)]
      simp only [Option.getD_some]
      cases hv : listed[i]'(by omega) with
      | true => rfl
      | false => exact absurd (by rw [← hv]; simp) hnot
    refine ⟨?_, hend a w ⟨_, hall, hj⟩ hsz hdf (fun t ht => hsame t fun i o hi _ => ?_) (fun i o hi hcn => hhold i o hi (hall i (Array.getElem?_eq_some_iff.1 hi).1) (fun j _ => hcn j))⟩
    · rw [List.eq_nil_iff_forall_not_mem]
      intro i hi
      obtain ⟨h1, o, ho, _⟩ := mem_ready.1 hi
      have h2 := hall i (Array.getElem?_eq_some_iff.1 ho).1
      rw [Array.getD_eq_getD_getElem?, Array.getElem?_eq_getElem (by have := (Array.getElem?_eq_some_iff.1 ho).1; omega)] at h1 h2
      simp only [Option.getD_some] at h1 h2
      rw [h1] at h2; cases h2
    · have hl := Array.all_eq_true.1 ht i (Array.getElem?_eq_some_iff.1 hi).1
      rw [(Array.getElem?_eq_some_iff.1 hi).2] at hl
      simpa using hl
  | succ f ih =>
    intro n listed a w hs hc hnf hj hsz hdf hcl hsame hhold
    refine ⟨fun h0 => ?_, fun i hi => ?_⟩
    · exfalso
      have hmem : false ∈ listed.toList := List.count_pos_iff.1 (by omega)
      have hex : ∃ i, i < ops.size ∧ listed.getD i true = false := by
        obtain ⟨k, hk, hke⟩ := List.getElem_of_mem hmem
        refine ⟨k, by simpa [hs] using hk, ?_⟩
        rw [Array.getD_eq_getD_getElem?, Array.getElem?_eq_getElem (by simpa using hk)]
        simpa using hke
      obtain ⟨i, ⟨hi, hf⟩, hmin⟩ := exists_least hex
      have hr : i ∈ Region.ready .any ops listed := mem_ready.2 ⟨hf, ops[i], Array.getElem?_eq_getElem hi, fun e he hbe => by
        have hlt := hback' i _ (Array.getElem?_eq_getElem hi) e he hbe
        have := hmin e.on hlt
        rw [Array.getD_eq_getD_getElem?, Array.getElem?_eq_getElem (by omega)] at this ⊢
        simp only [Option.getD_some] at this ⊢
        cases hv : listed[e.on]'(by omega) with
        | true => rfl
        | false => exact absurd ⟨by omega, hv⟩ this⟩
      rw [h0] at hr; cases hr
    · obtain ⟨hun, o, ho, hdeps⟩ := mem_ready.1 hi
      have hil : i < listed.size := by rw [hs]; exact (Array.getElem?_eq_some_iff.1 ho).1
      have hunf : listed.getD i false = false := by
        rw [Array.getD_eq_getD_getElem?, Array.getElem?_eq_getElem hil] at hun ⊢
        simpa using hun
      have hslot := plainG_spec hp ho
      have hwant : Region.wanted o (yielded ops a.tmps) = true := by
        unfold Region.wanted
        cases hgd : o.guard with
        | none => rfl
        | some db =>
          obtain ⟨d, b⟩ := db
          obtain ⟨e, he, hed, hbe, od, hod, t, ht⟩ := guardB_spec hgB ho hgd
          have hl := hdeps e he hbe
          rw [hed] at hl
          have hv := hgrd i o d b ho hgd _ _ (hhold d od hod hl (fun j _ => hcg i o d b ho hgd j))
          have hs2 : slotOf2 ops d a = a.tmps.getD t undef := by unfold slotOf2; rw [hod]; simp [refOf, ht]
          rw [hs2] at hv
          have hy : yielded ops a.tmps d = some b := by
            unfold yielded
            rw [hod]
            simp only [Option.bind_some, ht]
            rw [Array.getD_eq_getD_getElem?] at hv
            cases hx : a.tmps[t]? with
            | none => rw [hx] at hv; simp [undef] at hv
            | some x => rw [hx] at hv; simp at hv; rw [hv]
          simp [hy]
      unfold wpOp
      simp only [ho]
      rw [if_pos hwant]
      refine .inl (Oper.wp_mono ?_ (hop i o ho _ n a w (by omega) hunf hj (fun t ht => hsame t fun j o' hj' hl => ?_) (fun e he hbe hcn => ?_)))
      · rintro a' w' ⟨v, rfl, hj', hS, hF'⟩
        have hother : ∀ j o', ops[j]? = some o' → j ≠ i → listed.getD j false = true → slotOf2 ops j (a.put o.dst v) = slotOf2 ops j a := by
          intro j o' hj2 hne hl
          unfold slotOf2
          rw [hj2]
          simp only [Option.bind_some]
          cases ht : refOf o' with
          | none => simp
          | some t =>
            simp only
            cases hd : o.dst with
            | none => simp [Act.put]
            | some u =>
              rw [getD_put _ _ _ _ (by rw [hsz]; exact hdst' i o u ho hd), if_neg]
              rintro rfl
              cases hod : o'.dst with
              | some t' =>
                simp only [refOf, hod, Option.some.injEq] at ht
                subst ht
                exact hslot j o' _ hj2 hne hd hod
              | none =>
                simp only [refOf, hod] at ht
                rcases ptrB_spec hptr hj2 hod ht with hall | ⟨e, he, hbe, o2, ho2, hd2⟩
                · exact hall i o ho hd
                · have hle := hcl j o' hj2 hl e he hbe
                  have hei : e.on ≠ i := by rintro h; rw [h, hunf] at hle; cases hle
                  exact hslot e.on o2 _ ho2 hei hd hd2
        have hget : ∀ j, (listed.setIfInBounds i true).getD j false = true → j = i ∨ listed.getD j false = true := by
          intro j hjl
          by_cases hji : j = i
          · exact .inl hji
          · right
            rw [Array.getD_eq_getD_getElem?, Array.getElem?_setIfInBounds_ne (Ne.symm hji)] at hjl
            rw [Array.getD_eq_getD_getElem?]; exact hjl
        have hget' : ∀ j, listed.getD j false = true → (listed.setIfInBounds i true).getD j false = true := by
          intro j hjl
          by_cases hji : j = i
          · rw [hji] at hjl; rw [hunf] at hjl; cases hjl
          · rw [Array.getD_eq_getD_getElem?, Array.getElem?_setIfInBounds_ne (Ne.symm hji)]
            rw [Array.getD_eq_getD_getElem?] at hjl; exact hjl
        refine ih (n + 1) _ _ _ (by simpa using hs) (by have := count_step listed i hun; omega) (by omega) (by
          have e : (fun k => (listed.setIfInBounds i true).getD k false) = fun k => if k = i then true else listed.getD k false := funext fun k => by
            by_cases hki : k = i
            · rw [if_pos hki, hki, Array.getD_eq_getD_getElem?, Array.getElem?_setIfInBounds_self_of_lt hil]; rfl
            · rw [if_neg hki, Array.getD_eq_getD_getElem?, Array.getElem?_setIfInBounds_ne (Ne.symm hki), ← Array.getD_eq_getD_getElem?]
          rw [e]; exact hj') ?_ ?_ ?_ ?_ ?_
        · unfold Act.put; cases o.dst <;> simp [hsz]
        · unfold Act.put; cases o.dst <;> simp [hdf]
        · intro j oj hoj hl e he hbe
          rcases hget j hl with rfl | hl
          · obtain rfl : oj = o := Option.some.inj (hoj.symm.trans ho)
            exact hget' _ (hdeps e he hbe)
          · exact hget' _ (hcl j oj hoj hl e he hbe)
        · intro t ht
          have hne : o.dst ≠ some t := ht i o ho (by rw [Array.getD_eq_getD_getElem?, Array.getElem?_setIfInBounds_self_of_lt hil]; rfl)
          rw [← hsame t (fun j oj hoj hl => ht j oj hoj (hget' j hl))]
          cases hd : o.dst with
          | none => simp [Act.put]
          | some u =>
            rw [getD_put _ _ _ _ (by rw [hsz]; exact hdst' i o u ho hd), if_neg]
            rintro rfl
            exact hne hd
        · intro j oj hoj hl hcn
          by_cases hji : j = i
          · subst hji
            obtain rfl : oj = o := Option.some.inj (hoj.symm.trans ho)
            have : slotOf2 ops j (a.put oj.dst v) = if oj.dst.isSome then v else slotOf2 ops j a := by
              cases hd : oj.dst with
              | none => simp [Act.put]
              | some u =>
                unfold slotOf2
                rw [hoj]
                simp only [Option.bind_some, refOf, hd]
                rw [getD_put _ _ _ _ (by rw [hsz]; exact hdst' j oj u hoj hd)]
                simp
            rw [this]; exact hF'
          · rcases hget j hl with h | hl
            · exact absurd h hji
            · rw [hother j oj hoj hji hl]
              exact hF i j _ w w' hS (hcn i (by rw [Array.getD_eq_getD_getElem?, Array.getElem?_setIfInBounds_self_of_lt hil]; rfl)) hji (by
                cases hwt : reachT ops 6 j i
                · rfl
                · exfalso
                  have := reachT_closed hcl 6 j i hwt hl
                  rw [hunf] at this; cases this) (fun oj' hoj' e he hbe => hcn e.on (hget' _ (by
                obtain rfl : oj' = o := Option.some.inj (hoj'.symm.trans ho)
                exact hdeps e he hbe))) (hhold j oj hoj hl (fun q hq => hcn q (hget' q hq)))
      · have h1 := List.all_eq_true.1 ht j (List.mem_range.2 (Array.getElem?_eq_some_iff.1 hj').1)
        simp only [hj', Bool.or_eq_true, bne_iff_ne, beq_iff_eq] at h1
        rcases h1 with (h1 | h1) | h1
        · exact h1
        · subst h1; rw [hunf] at hl; cases hl
        · have := reachT_closed hcl 6 j i h1 hl
          rw [hunf] at this; cases this
      · have hd := hdeps e he hbe
        have hlt := hback' i o ho e he hbe
        refine hhold e.on ops[e.on] (Array.getElem?_eq_getElem (by have := (Array.getElem?_eq_some_iff.1 ho).1; omega)) hd (fun q hq => ?_)
        have hqs : q < ops.size := by
          by_cases h : q < ops.size
          · exact h
          · rw [Array.getD_eq_getD_getElem?, Array.getElem?_eq_none (by omega)] at hq; simp at hq
        cases hc : cons q e.on
        · rfl
        · have hqi := hcn q hqs hc
          subst hqi
          rw [hunf] at hq; cases hq

theorem wp_region_inv3i {id : Nat} {Q : Exit → Act → World → Prop} {a0 : Act} {w0 : World} (hm : P.follows .mixedOrders = true) (hp : plainG ops = true) (hgB : guardB ops = true) (hback : backB ops = true) (hptr : ptrB ops = true)
    (hdst : (ops.all fun o => match o.dst with | some t => decide (t < a0.tmps.size) | none => true) = true)
    (J : (Nat → Bool) → Nat → World → Prop) (S : Nat → World → World → Prop) (F : Nat → Value → World → Prop) (cons : Nat → Nat → Bool) (hJ : J (fun _ => false) 0 w0.drew) (hF : ∀ j i v w w', S j w w' → cons j i = false → i ≠ j → reachT ops 6 i j = false → (∀ oj, ops[j]? = some oj → ∀ e ∈ oj.after, Region.binds .any e = true → cons e.on i = false) → F i v w → F i v w')
    (hgrd : ∀ (i : Nat) (o : Oper) (d : Nat) (b : Bool), ops[i]? = some o → o.guard = some (d, b) → ∀ v w, F d v w → v = .bool b)
    (hop : ∀ (i : Nat) (o : Oper), ops[i]? = some o → ∀ (L : Nat → Bool) (n : Nat) (a : Act) (w : World), n < ops.size → L i = false → J L n w →
      (∀ t, freshT ops i t = true → a.tmps.getD t undef = a0.tmps.getD t undef) →
      (∀ e ∈ o.after, Region.binds .any e = true → (∀ j, j < ops.size → cons j e.on = true → j = i) → F e.on (slotOf2 ops e.on a) w) →
      o.wp P a w (fun a' w' => ∃ v, a' = a.put o.dst v ∧ J (fun k => if k = i then true else L k) (n + 1) w' ∧ S i w w' ∧ F i (if o.dst.isSome then v else slotOf2 ops i a) w') Q)
    (hcg : ∀ (i : Nat) (o : Oper) (d : Nat) (b : Bool), ops[i]? = some o → o.guard = some (d, b) → ∀ j, cons j d = false)
    (hend : ∀ (tm : Array Value) (w : World), (∃ L : Nat → Bool, (∀ i, i < ops.size → L i = true) ∧ J L ops.size w) → (∀ (i : Nat) (o : Oper), ops[i]? = some o → (∀ j, cons j i = false) → F i (slotOf2 ops i ⟨tm, a0.defers⟩) w) → Q .normal ⟨refillL ops.toList a0.tmps tm, a0.defers⟩ w) :
    (Code.region id ops true).wp P Q a0 w0 := by
  refine wp_region_inv2i hm hp hgB hback hptr hdst J S F cons hJ hF hgrd hop hcg ?_
  rintro ⟨tm, df⟩ w hj hsz hdf hb hFF
  obtain rfl : df = a0.defers := hdf
  have e := refill_eq hsz hb
  have := hend tm w hj hFF
  rw [← e] at this
  exact this

end
end Go.Proofs.YtachfmlfmpaddaaGreatDoor
