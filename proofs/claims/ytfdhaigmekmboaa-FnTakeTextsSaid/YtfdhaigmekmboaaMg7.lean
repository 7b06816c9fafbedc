/- Walks and plain facts, joined: DrawSt, InvE, DrawSu, DrawPr, InvF, Reach, DrawAs, Same, Put. -/
import Derived.Test.YtfdhaigmekmboaaMg1
import Derived.Test.YtfdhaigmekmboaaMg2
import Derived.Test.YtfdhaigmekmboaaMg3
import Derived.Test.YtfdhaigmekmboaaMg4
import Derived.Test.YtfdhaigmekmboaaMg6
import Derived.Deep.LoopGhost
import Derived.WalkSmall
import Derived.OneCell
set_option linter.unusedVariables false

/- Walks: drawn paths, contents, steps and stores. -/
namespace Go.Proofs.Ytfdhaigmekmboaa
open Go.RowKit

def pathB (s : ByteArray) : Bool := decide (bs s = [47]) || (match pathParts (bs s) with | some (_ :: _) => true | _ => false)
def pathS (s : ByteArray) : Bool := decide (s.size ≤ 12) && pathB s
def sizeS (s : ByteArray) : Bool := decide (s.size ≤ 12)
def contS (s : ByteArray) : Bool := decide (s.size ≤ 12) && contOk (bs s)
def allP (p : ByteArray → Bool) (l : List Value) : Bool := l.all fun v => match v with | .string s => p s | _ => false
theorem strP_cell {p : ByteArray → Bool} {cs : Array Value} {t : TypeId} (h : allP p cs.toList = true) {j : Nat} (hj : j < cs.size) : ∃ s : ByteArray, p s = true ∧ ∀ (W : World) (b : Nat), W.heap[b]? = some (.cells cs t (0, 0)) → W.cell? ⟨b, j, none⟩ = some (.string s) := by
  have hm : cs[j] ∈ cs.toList := by simp
  have h1 := List.all_eq_true.1 h _ hm
  cases hv : cs[j] with
  | string s =>
    rw [hv] at h1
    exact ⟨s, h1, fun W b hW => by simp [World.cell?, hW, hj, hv]⟩
  | _ => rw [hv] at h1; cases h1
def allI (lo hi : Int) (l : List Value) : Bool := l.all fun v => match v with | .int .i64 x => decide (lo ≤ x) && decide (x ≤ hi) | _ => false
theorem intI_cell {lo hi : Int} {cs : Array Value} {t : TypeId} (h : allI lo hi cs.toList = true) {j : Nat} (hj : j < cs.size) : ∃ x : Int, lo ≤ x ∧ x ≤ hi ∧ ∀ (W : World) (b : Nat), W.heap[b]? = some (.cells cs t (0, 0)) → W.cell? ⟨b, j, none⟩ = some (.int .i64 x) := by
  have hm : cs[j] ∈ cs.toList := by simp
  have h1 := List.all_eq_true.1 h _ hm
  cases hv : cs[j] with
  | int k x =>
    rw [hv] at h1
    cases k <;> simp at h1
    exact ⟨x, h1.1, h1.2, fun W b hW => by simp [World.cell?, hW, hj, hv]⟩
  | _ => rw [hv] at h1; cases h1

/-- A path; the reader has been asked at most twice more. -/
def PathD (n : Int) (w : World) (g : Nat) (l : List Int) (p : Nat) (e : Ending) (w' : World) : Prop :=
  ∃ (s : ByteArray) (p' : Nat), e = .returned (.string s) ∧ s.size ≤ 12 ∧ (n ≤ 0 → pathB s = true) ∧ p' ≤ p + 2 ∧ Reader w' g l p' ∧ w.grownBy w' (some g)

set_option maxHeartbeats 2000000 in
set_option maxRecDepth 100000 in
theorem spec_l20Path_c (g p : Nat) (l : List Int) (n : Int) (w : World) (h : Reader w g l p) (hp : p ≤ 109951162777) (hn0 : 0 ≤ n) (hn9 : n ≤ 1000000) :
    Calls Try.prog 55 #[.pointer (some ⟨g, 0, none⟩), .int .i64 n] w (PathD n w g l p) := by
  go_enter Try.func55, Try.ntmps55
  go_wp2_with fail
  refine (spec_odd_c g p l n _ h (by omega) hn0 hn9).mono ?_
  rintro e w1 ⟨x, p1, rfl, hx0, hp1, r1, g1⟩
  have hgl : g < w1.heap.size := r1.lt
  have R := hid r1
  have G1 := hid g1
  have HX0 := hid hx0
  clear r1 h g1 hx0
  cases x
  · go_wp2_with fail
    refine (spec_pick_c g p1 l 13 _ ((R.out.alloc _).alloc _) (by omega)).mono ?_
    rintro e w2 ⟨x, rfl, x0, x3, _, r2, g2⟩
    have hhA := (g2.block w1.heap.size (by simp; omega) (some_ne (by omega))).trans ((Below.heap_alloc _ _ _ (by simp)).trans (heap_alloc_new w1 _))
    have hhB := (g2.block (w1.heap.size + 1) (by simp) (some_ne (by omega))).trans (second_heap w1 _ _)
    have x3' := x3 (by omega)
    obtain ⟨j, rfl⟩ : ∃ j : Nat, x = j := ⟨x.toNat, by omega⟩
    have hj : j < 13 := by omega
    obtain ⟨z, z0, z1, hz⟩ := intI_cell (lo := 0) (hi := 7) (t := 3) (cs := #[.int .i64 0, .int .i64 1, .int .i64 2, .int .i64 3, .int .i64 4, .int .i64 5, .int .i64 6, .int .i64 7, .int .i64 0, .int .i64 1, .int .i64 2, .int .i64 3, .int .i64 4]) (by rfl) hj
    obtain ⟨i, rfl⟩ : ∃ i : Nat, z = i := ⟨z.toNat, by omega⟩
    have hi : i < 8 := by omega
    obtain ⟨s, hs, hs0⟩ := strP_cell (p := pathS) (t := 9) (cs := #[.string ⟨#[47, 97]⟩, .string ⟨#[47, 98]⟩, .string ⟨#[47, 99]⟩, .string ⟨#[47, 97, 47, 98]⟩, .string ⟨#[47, 98, 47, 97]⟩, .string ⟨#[47, 98, 47, 98, 47, 97]⟩, .string ⟨#[47, 97, 47, 98, 47, 99]⟩, .string ⟨#[47]⟩]) (by decide +kernel) hi
    have hcB := hz _ _ hhB
    have hcA := hs0 _ _ hhA
    have HS := hid hs
    have G2 := hid g2
    have R2 := hid r2
    clear hz hs0 hhA hhB x3 g2 r2 hs
    go_wp2
    go_ret
    have hss := HS.out
    unfold pathS at hss
    rw [Bool.and_eq_true, decide_eq_true_eq] at hss
    exact ⟨_, _, rfl, hss.1, fun _ => hss.2, by omega, R2.out, G1.out.trans (gb_unalloc (gb_unalloc G2.out))⟩
  · go_wp2_with fail
    refine (spec_pick_c g p1 l 6 _ (R.out.alloc _) (by omega)).mono ?_
    rintro e w2 ⟨x, rfl, x0, x3, _, r2, g2⟩
    have hh := (g2.block w1.heap.size (by simp) (some_ne (by omega))).trans (heap_alloc_new w1 _)
    have x3' := x3 (by omega)
    obtain ⟨j, rfl⟩ : ∃ j : Nat, x = j := ⟨x.toNat, by omega⟩
    have hj : j < 6 := by omega
    obtain ⟨s, hs, h0⟩ := strP_cell (p := sizeS) (t := 9) (cs := #[.string ⟨#[]⟩, .string ⟨#[97]⟩, .string ⟨#[47, 47]⟩, .string ⟨#[47, 97, 47]⟩, .string ⟨#[47, 65]⟩, .string ⟨#[47, 97, 47, 98, 47, 99, 47, 100]⟩]) (by rfl) hj
    have hc := h0 _ _ hh
    have HS := hid hs
    have G2 := hid g2
    have R2 := hid r2
    clear h0 hh x3 g2 r2 hs
    go_wp2
    go_ret
    exact ⟨_, _, rfl, of_decide_eq_true HS.out, fun h => (by have := HX0.out h; cases this), by omega, R2.out, G1.out.trans (gb_unalloc G2.out)⟩

def ContD (w : World) (g : Nat) (l : List Int) (p : Nat) (e : Ending) (w' : World) : Prop :=
  ∃ (s : ByteArray), e = .returned (.string s) ∧ contS s = true ∧ Reader w' g l (p + 1) ∧ w.grownBy w' (some g)

set_option maxHeartbeats 2000000 in
set_option maxRecDepth 100000 in
theorem spec_l20Content_c (g p : Nat) (l : List Int) (w : World) (h : Reader w g l p) (hp : p ≤ 109951162777) :
    Calls Try.prog 58 #[.pointer (some ⟨g, 0, none⟩)] w (ContD w g l p) := by
  have hgl : g < w.heap.size := h.lt
  have R := hid h
  clear h
  go_enter Try.func58, Try.ntmps58
  go_wp2_with fail
  refine (spec_pick_c g p l 4 _ (R.out.alloc _) (by omega)).mono ?_
  rintro e w2 ⟨x, rfl, x0, x3, _, r2, g2⟩
  have hh := (g2.block w.heap.size (by simp) (some_ne (by omega))).trans (heap_alloc_new w _)
  have x3' := x3 (by omega)
  obtain ⟨j, rfl⟩ : ∃ j : Nat, x = j := ⟨x.toNat, by omega⟩
  have hj : j < 4 := by omega
  obtain ⟨s, hs, h0⟩ := strP_cell (p := contS) (t := 9) (cs := #[.string ⟨#[104, 105]⟩, .string ⟨#[114, 101, 100, 32, 103, 114, 101, 101, 110]⟩, .string ⟨#[]⟩, .string ⟨#[120]⟩]) (by decide +kernel) hj
  have hc := h0 _ _ hh
  have HS := hid hs
  have G2 := hid g2
  have R2 := hid r2
  clear h0 hh x3 g2 r2 hs
  go_wp2
  go_ret
  exact ⟨_, rfl, HS.out, R2.out, gb_unalloc G2.out⟩

/-- A good store that is not empty. -/
def Good1 (l : List Pc) : Prop := Good l ∧ l ≠ []
theorem Good1.le {a b : List Pc} (h : Good1 a) (hb : Good b) (hl : Le a b) : Good1 b := by
  refine ⟨hb, ?_⟩
  rintro rfl
  have := hl.len h.1.1 hb.1
  have h0 := h.2
  cases a with
  | nil => exact h0 rfl
  | cons x r => simp at this
theorem Good.small {l : List Pc} (h : Good l) : (∀ x ∈ l, x.text.size ≤ 1048576) ∧ l.length ≤ 1048576 := ⟨fun x hx => by have := st_text h.1 hx; omega, by have := (st_in h.1).1; omega⟩
theorem path_cases {s : ByteArray} (h : pathB s = true) : bs s = [47] ∨ ∃ ws, pathParts (bs s) = some ws ∧ ws ≠ [] := by
  unfold pathB at h
  rw [Bool.or_eq_true, decide_eq_true_eq] at h
  rcases h with h | h
  · exact .inl h
  · cases hp : pathParts (bs s) with
    | none => rw [hp] at h; cases h
    | some ws =>
      rw [hp] at h
      cases ws with
      | nil => cases h
      | cons x r => exact .inr ⟨_, rfl, by simp⟩

def StepD (w : World) (g B : Nat) (l : List Int) (p : Nat) (e : Ending) (w' : World) : Prop :=
  ∃ (v : Value) (xs : List Pc) (root : Int) (ok : Bool) (p' : Nat), e = .returned (.tuple #[v, .int .i64 root, .bool ok]) ∧ OwnP w' B v xs ∧ Good1 xs ∧ p' ≤ p + 4 ∧ Reader w' g l p' ∧ w.grownBy w' (some g)

set_option maxHeartbeats 2000000 in
set_option maxRecDepth 100000 in
theorem spec_l20Step_c (g p B : Nat) (l : List Int) (v : Value) (xs : List Pc) (root : Int) (w : World) (h : Reader w g l p) (hp : p ≤ 10995116277) (ho : OwnP w B v xs) (hg : g < B) (hB : B ≤ w.heap.size) (hx : Good1 xs) :
    Calls Try.prog 50 #[.pointer (some ⟨g, 0, none⟩), v, .int .i64 root] w (StepD w g B l p) := by
  have HX := hid hx
  have HO := hid ho
  clear ho hx
  go_enter Try.func50, Try.ntmps50
  go_wp2_with fail
  refine (spec_l20Path_c g p l 0 _ h (by omega) (by omega) (by omega)).mono ?_
  rintro e w1 ⟨s, p1, rfl, hs12, hpb, hp1, r1, g1⟩
  have R1 := hid r1
  have G1 := hid g1
  have O1 := hid (HO.out.far g1 (fun b hb => by simp at hb; omega))
  have s1 := g1.size
  have HPC := hid (path_cases (hpb (by omega)))
  have HPB := hid hpb
  have hb1 := str_beq' s [47]
  rw [show (strL [47]).toList = [47] by rw [ByteArray.toList_eq]; rfl] at hb1
  clear r1 g1 h HO hpb
  by_cases h47 : bs s = [47]
  · have hq : (s.toList == [47]) = true := by rw [hb1]; exact decide_eq_true h47
    clear hb1 h47
    go_wp2
    go_ret3
    exact ⟨_, xs, root, false, p1, rfl, O1.out, HX.out, by omega, R1.out, G1.out⟩
  · have hq : (s.toList == [47]) = false := by rw [hb1]; exact decide_eq_false h47
    obtain ⟨ws, hws, hw0⟩ : ∃ ws, pathParts (bs s) = some ws ∧ ws ≠ [] := by
      rcases HPC.out with h | h
      · exact absurd h h47
      · exact h
    have HWS := hid hws
    have HW0 := hid hw0
    clear hb1 h47 hws hw0
    go_wp2_with fail
    refine (spec_pick_c g p1 l 5 _ R1.out (by omega)).mono ?_
    rintro e w2 ⟨x, rfl, x0, x3, _, r2, g2⟩
    have R2 := hid r2
    have G2 := hid (G1.out.trans g2)
    have O2 := hid (O1.out.far g2 (fun b hb => by simp at hb; omega))
    have s2 := g2.size
    clear r2 g2 O1 R1 G1 x3
    by_cases hx0 : x = 0
    · have hxd : (x == 0) = true := by simp [hx0]
      clear hx0 x0
      obtain ⟨R, hR⟩ : ∃ R, dropAt xs root (bs s) = R := ⟨_, rfl⟩
      have HG := hid (show Good R.1 ∧ Le xs R.1 by rw [← hR]; exact dropAt_good HX.out.1 HWS.out HW0.out)
      have HR := hid hR
      obtain ⟨xs', root', ok⟩ := R
      clear hR
      go_wp2_with fail
      refine (spec_DropAt_c _ xs root s _ (xs', root', ok) HR.out (Rd.of_own O2.out) HX.out.1.small.1 HX.out.1.small.2 (by omega)).mono ?_
      rintro e w3 ⟨v', rfl, o3, b3⟩
      have O3 := hid (o3.less (by omega : B ≤ w2.heap.size))
      have R3 := hid (R2.out.on b3)
      have G3 := hid (G2.out.trans (gb_of_below b3 (some g)))
      clear o3 b3 R2 G2 O2
      go_wp2
      go_ret3
      exact ⟨_, xs', root', ok, _, rfl, O3.out, HX.out.le HG.out.1 HG.out.2, by omega, R3.out, G3.out⟩
    · have hxd : (x == 0) = false := by simp [hx0]
      clear hx0 x0
      go_wp2_with fail
      refine (spec_l20Content_c g _ l _ R2.out (by omega)).mono ?_
      rintro e w3 ⟨ct, rfl, hct, r3, g3⟩
      have R3 := hid r3
      have G3 := hid (G2.out.trans g3)
      have O3 := hid (O2.out.far g3 (fun b hb => by simp at hb; omega))
      have s3 := g3.size
      have HCT := hid (show ct.size ≤ 12 ∧ contOk (bs ct) = true by unfold contS at hct; rw [Bool.and_eq_true, decide_eq_true_eq] at hct; exact hct)
      clear r3 g3 R2 G2 O2 hct
      obtain ⟨R, hR⟩ : ∃ R, writeAt xs root (bs s) (bs ct) = R := ⟨_, rfl⟩
      have HG := hid (show Good R.1 ∧ Le xs R.1 by rw [← hR]; exact writeAt_good HX.out.1 HWS.out HW0.out HCT.out.2)
      have HR := hid hR
      obtain ⟨xs', root', ok⟩ := R
      clear hR
      go_wp2_with fail
      refine (spec_WriteAt_c _ xs root s ct _ (xs', root', ok) HR.out (Rd.of_own O3.out) HX.out.1.small.1 HX.out.1.small.2 (by omega) (by have := HCT.out.1; omega)).mono ?_
      rintro e w4 ⟨v', rfl, o4, b4⟩
      have O4 := hid (o4.less (by omega : B ≤ w3.heap.size))
      have R4 := hid (R3.out.on b4)
      have G4 := hid (G3.out.trans (gb_of_below b4 (some g)))
      clear o4 b4 R3 G3 O3
      go_wp2
      go_ret3
      exact ⟨_, xs', root', ok, _, rfl, O4.out, HX.out.le HG.out.1 HG.out.2, by omega, R4.out, G4.out⟩

end Go.Proofs.Ytfdhaigmekmboaa

/- A region that draws its order, held by an invariant; an operation may use up what other ones' slots held; a slot stands as it was as long as its writers wait, over others too. No program in sight. -/
namespace Go.Proofs.Ytfdhaigmekmboaa
open Go.RowKit

section
variable {P : Program} {ops : Array Oper}
/-- Operation j waits for i, over others too. -/
def reachT (ops : Array Oper) : Nat → Nat → Nat → Bool
  | 0, _, _ => false
  | f + 1, j, i => match ops[j]? with
    | some o => o.after.any fun e => Region.binds .any e && (e.on == i || reachT ops f e.on i)
    | none => false
theorem reachT_closed {listed : Array Bool} (hcl : ∀ (j : Nat) (o : Oper), ops[j]? = some o → listed.getD j false = true → ∀ e ∈ o.after, Region.binds .any e = true → listed.getD e.on false = true) :
    ∀ (f j i : Nat), reachT ops f j i = true → listed.getD j false = true → listed.getD i false = true
  | 0, _, _, h, _ => by cases h
  | f + 1, j, i, h, hl => by
    unfold reachT at h
    cases ho : ops[j]? with
    | none => rw [ho] at h; cases h
    | some o =>
      rw [ho] at h
      obtain ⟨k, hk, hke⟩ := Array.any_eq_true.1 h
      simp only [Bool.and_eq_true, Bool.or_eq_true, beq_iff_eq] at hke
      have hm := hcl j o ho hl _ (Array.getElem_mem hk) hke.1
      rcases hke.2 with e | e
      · rw [← e]; exact hm
      · exact reachT_closed hcl f _ i e hm
def freshT (ops : Array Oper) (i t : Nat) : Bool := (List.range ops.size).all fun j => match ops[j]? with
  | some o => o.dst != some t || j == i || reachT ops 6 j i
  | none => true
theorem wp_region_inv2e {id : Nat} {Q : Exit → Act → World → Prop} {a0 : Act} {w0 : World} (hm : P.follows .mixedOrders = true) (hp : plainG ops = true) (hgB : guardB ops = true) (hback : backB ops = true) (hptr : ptrB ops = true)
    (hdst : (ops.all fun o => match o.dst with | some t => decide (t < a0.tmps.size) | none => true) = true)
    (J : Nat → World → Prop) (S : Nat → World → World → Prop) (F : Nat → Value → World → Prop) (cons : Nat → Nat → Bool) (hJ : J 0 w0.drew) (hF : ∀ j i v w w', S j w w' → cons j i = false → i ≠ j → Region.waitsFor .any ops i j = false → (∀ oj, ops[j]? = some oj → ∀ e ∈ oj.after, Region.binds .any e = true → cons e.on i = false) → F i v w → F i v w')
    (hgrd : ∀ (i : Nat) (o : Oper) (d : Nat) (b : Bool), ops[i]? = some o → o.guard = some (d, b) → ∀ v w, F d v w → v = .bool b)
    (hop : ∀ (i : Nat) (o : Oper), ops[i]? = some o → ∀ (n : Nat) (a : Act) (w : World), n < ops.size → J n w →
      (∀ t, freshT ops i t = true → a.tmps.getD t undef = a0.tmps.getD t undef) →
      (∀ e ∈ o.after, Region.binds .any e = true → (∀ j, j < ops.size → cons j e.on = true → j = i) → F e.on (slotOf2 ops e.on a) w) →
      o.wp P a w (fun a' w' => ∃ v, a' = a.put o.dst v ∧ J (n + 1) w' ∧ S i w w' ∧ F i (if o.dst.isSome then v else slotOf2 ops i a) w') Q)
    (hcg : ∀ (i : Nat) (o : Oper) (d : Nat) (b : Bool), ops[i]? = some o → o.guard = some (d, b) → ∀ j, cons j d = false)
    (hend : ∀ (a : Act) (w : World), J ops.size w → a.tmps.size = a0.tmps.size → a.defers = a0.defers → (∀ t, looseB ops t = true → a.tmps.getD t undef = a0.tmps.getD t undef) → (∀ (i : Nat) (o : Oper), ops[i]? = some o → (∀ j, cons j i = false) → F i (slotOf2 ops i a) w) → Q .normal a w) :
    (Code.region id ops true).wp P Q a0 w0 := by
  refine wp_region_any hm ?_
  have hdst' : ∀ (i : Nat) (o : Oper) (t : Tmp), ops[i]? = some o → o.dst = some t → t < a0.tmps.size := by
    intro i o t hi ht
    have hlt := (Array.getElem?_eq_some_iff.1 hi)
    obtain ⟨hlt, he⟩ := hlt
    have h1 := Array.all_eq_true.1 hdst i hlt
    rw [he, ht] at h1
    exact of_decide_eq_true h1
  have hback' : ∀ (i : Nat) (o : Oper), ops[i]? = some o → ∀ e ∈ o.after, Region.binds .any e = true → e.on < i := by
    intro i o hi e he hbe
    have h1 := List.all_eq_true.1 hback i (List.mem_range.2 (Array.getElem?_eq_some_iff.1 hi).1)
    simp only [hi] at h1
    obtain ⟨k, hk, hke⟩ := Array.getElem_of_mem he
    have h2 := Array.all_eq_true.1 h1 k hk
    rw [hke, hbe] at h2
    exact of_decide_eq_true (by simpa using h2)
  suffices H : ∀ (f n : Nat) (listed : Array Bool) (a : Act) (w : World), listed.size = ops.size → listed.toList.count false = f → n + f = ops.size → J n w → a.tmps.size = a0.tmps.size → a.defers = a0.defers →
      (∀ j o, ops[j]? = some o → listed.getD j false = true → ∀ e ∈ o.after, Region.binds .any e = true → listed.getD e.on false = true) →
      (∀ t, (∀ (i : Nat) (o : Oper), ops[i]? = some o → listed.getD i false = true → o.dst ≠ some t) → a.tmps.getD t undef = a0.tmps.getD t undef) →
      (∀ (i : Nat) (o : Oper), ops[i]? = some o → listed.getD i false = true → (∀ j, listed.getD j false = true → cons j i = false) → F i (slotOf2 ops i a) w) → wpAny P .any ops Q f listed a w by
    refine H _ 0 _ _ _ (by simp) (by simp) (by simp) hJ rfl rfl ?_ ?_ ?_
    · intro j o _ h; rw [getD_replicate_false] at h; cases h
    · intro t _; rfl
    · intro i o _ h; rw [getD_replicate_false] at h; cases h
  intro f
  induction f with
  | zero =>
    intro n listed a w hs hc hnf hj hsz hdf _ hsame hhold
    obtain rfl : n = ops.size := by omega
    have hall : ∀ i, i < ops.size → listed.getD i false = true := by
      intro i hi
      have hnot : false ∉ listed.toList := List.count_eq_zero.1 hc
      rw [Array.getD_eq_getD_getElem?, Array.getElem?_eq_getElem (by omega)]
      simp only [Option.getD_some]
      cases hv : listed[i]'(by omega) with
      | true => rfl
      | false => exact absurd (by rw [← hv]; simp) hnot
    refine ⟨?_, hend a w hj hsz hdf (fun t ht => hsame t fun i o hi _ => ?_) (fun i o hi hcn => hhold i o hi (hall i (Array.getElem?_eq_some_iff.1 hi).1) (fun j _ => hcn j))⟩
    · rw [List.eq_nil_iff_forall_not_mem]
      intro i hi
      obtain ⟨h1, o, ho, _⟩ := mem_ready.1 hi
      have h2 := hall i (Array.getElem?_eq_some_iff.1 ho).1
      rw [Array.getD_eq_getD_getElem?, Array.getElem?_eq_getElem (by have := (Array.getElem?_eq_some_iff.1 ho).1; omega)] at h1 h2
      simp only [Option.getD_some] at h1 h2
      rw [h1] at h2; cases h2
    · have hl := Array.all_eq_true.1 ht i (Array.getElem?_eq_some_iff.1 hi).1
      rw [(Array.getElem?_eq_some_iff.1 hi).2] at hl
      simpa using hl
  | succ f ih =>
    intro n listed a w hs hc hnf hj hsz hdf hcl hsame hhold
    refine ⟨fun h0 => ?_, fun i hi => ?_⟩
    · exfalso
      have hmem : false ∈ listed.toList := List.count_pos_iff.1 (by omega)
      have hex : ∃ i, i < ops.size ∧ listed.getD i true = false := by
        obtain ⟨k, hk, hke⟩ := List.getElem_of_mem hmem
        refine ⟨k, by simpa [hs] using hk, ?_⟩
        rw [Array.getD_eq_getD_getElem?, Array.getElem?_eq_getElem (by simpa using hk)]
        simpa using hke
      obtain ⟨i, ⟨hi, hf⟩, hmin⟩ := exists_least hex
      have hr : i ∈ Region.ready .any ops listed := mem_ready.2 ⟨hf, ops[i], Array.getElem?_eq_getElem hi, fun e he hbe => by
        have hlt := hback' i _ (Array.getElem?_eq_getElem hi) e he hbe
        have := hmin e.on hlt
        rw [Array.getD_eq_getD_getElem?, Array.getElem?_eq_getElem (by omega)] at this ⊢
        simp only [Option.getD_some] at this ⊢
        cases hv : listed[e.on]'(by omega) with
        | true => rfl
        | false => exact absurd ⟨by omega, hv⟩ this⟩
      rw [h0] at hr; cases hr
    · obtain ⟨hun, o, ho, hdeps⟩ := mem_ready.1 hi
      have hil : i < listed.size := by rw [hs]; exact (Array.getElem?_eq_some_iff.1 ho).1
      have hunf : listed.getD i false = false := by
        rw [Array.getD_eq_getD_getElem?, Array.getElem?_eq_getElem hil] at hun ⊢
        simpa using hun
      have hslot := plainG_spec hp ho
      have hwant : Region.wanted o (yielded ops a.tmps) = true := by
        unfold Region.wanted
        cases hgd : o.guard with
        | none => rfl
        | some db =>
          obtain ⟨d, b⟩ := db
          obtain ⟨e, he, hed, hbe, od, hod, t, ht⟩ := guardB_spec hgB ho hgd
          have hl := hdeps e he hbe
          rw [hed] at hl
          have hv := hgrd i o d b ho hgd _ _ (hhold d od hod hl (fun j _ => hcg i o d b ho hgd j))
          have hs2 : slotOf2 ops d a = a.tmps.getD t undef := by unfold slotOf2; rw [hod]; simp [refOf, ht]
          rw [hs2] at hv
          have hy : yielded ops a.tmps d = some b := by
            unfold yielded
            rw [hod]
            simp only [Option.bind_some, ht]
            rw [Array.getD_eq_getD_getElem?] at hv
            cases hx : a.tmps[t]? with
            | none => rw [hx] at hv; simp [undef] at hv
            | some x => rw [hx] at hv; simp at hv; rw [hv]
          simp [hy]
      unfold wpOp
      simp only [ho]
      rw [if_pos hwant]
      refine .inl (Oper.wp_mono ?_ (hop i o ho n a w (by omega) hj (fun t ht => hsame t fun j o' hj' hl => ?_) (fun e he hbe hcn => ?_)))
      · rintro a' w' ⟨v, rfl, hj', hS, hF'⟩
        have hother : ∀ j o', ops[j]? = some o' → j ≠ i → listed.getD j false = true → slotOf2 ops j (a.put o.dst v) = slotOf2 ops j a := by
          intro j o' hj2 hne hl
          unfold slotOf2
          rw [hj2]
          simp only [Option.bind_some]
          cases ht : refOf o' with
          | none => simp
          | some t =>
            simp only
            cases hd : o.dst with
            | none => simp [Act.put]
            | some u =>
              rw [getD_put _ _ _ _ (by rw [hsz]; exact hdst' i o u ho hd), if_neg]
              rintro rfl
              cases hod : o'.dst with
              | some t' =>
                simp only [refOf, hod, Option.some.injEq] at ht
                subst ht
                exact hslot j o' _ hj2 hne hd hod
              | none =>
                simp only [refOf, hod] at ht
                rcases ptrB_spec hptr hj2 hod ht with hall | ⟨e, he, hbe, o2, ho2, hd2⟩
                · exact hall i o ho hd
                · have hle := hcl j o' hj2 hl e he hbe
                  have hei : e.on ≠ i := by rintro h; rw [h, hunf] at hle; cases hle
                  exact hslot e.on o2 _ ho2 hei hd hd2
        have hget : ∀ j, (listed.setIfInBounds i true).getD j false = true → j = i ∨ listed.getD j false = true := by
          intro j hjl
          by_cases hji : j = i
          · exact .inl hji
          · right
            rw [Array.getD_eq_getD_getElem?, Array.getElem?_setIfInBounds_ne (Ne.symm hji)] at hjl
            rw [Array.getD_eq_getD_getElem?]; exact hjl
        have hget' : ∀ j, listed.getD j false = true → (listed.setIfInBounds i true).getD j false = true := by
          intro j hjl
          by_cases hji : j = i
          · rw [hji] at hjl; rw [hunf] at hjl; cases hjl
          · rw [Array.getD_eq_getD_getElem?, Array.getElem?_setIfInBounds_ne (Ne.symm hji)]
            rw [Array.getD_eq_getD_getElem?] at hjl; exact hjl
        refine ih (n + 1) _ _ _ (by simpa using hs) (by have := count_step listed i hun; omega) (by omega) hj' ?_ ?_ ?_ ?_ ?_
        · unfold Act.put; cases o.dst <;> simp [hsz]
        · unfold Act.put; cases o.dst <;> simp [hdf]
        · intro j oj hoj hl e he hbe
          rcases hget j hl with rfl | hl
          · obtain rfl : oj = o := Option.some.inj (hoj.symm.trans ho)
            exact hget' _ (hdeps e he hbe)
          · exact hget' _ (hcl j oj hoj hl e he hbe)
        · intro t ht
          have hne : o.dst ≠ some t := ht i o ho (by rw [Array.getD_eq_getD_getElem?, Array.getElem?_setIfInBounds_self_of_lt hil]; rfl)
          rw [← hsame t (fun j oj hoj hl => ht j oj hoj (hget' j hl))]
          cases hd : o.dst with
          | none => simp [Act.put]
          | some u =>
            rw [getD_put _ _ _ _ (by rw [hsz]; exact hdst' i o u ho hd), if_neg]
            rintro rfl
            exact hne hd
        · intro j oj hoj hl hcn
          by_cases hji : j = i
          · subst hji
            obtain rfl : oj = o := Option.some.inj (hoj.symm.trans ho)
            have : slotOf2 ops j (a.put oj.dst v) = if oj.dst.isSome then v else slotOf2 ops j a := by
              cases hd : oj.dst with
              | none => simp [Act.put]
              | some u =>
                unfold slotOf2
                rw [hoj]
                simp only [Option.bind_some, refOf, hd]
                rw [getD_put _ _ _ _ (by rw [hsz]; exact hdst' j oj u hoj hd)]
                simp
            rw [this]; exact hF'
          · rcases hget j hl with h | hl
            · exact absurd h hji
            · rw [hother j oj hoj hji hl]
              exact hF i j _ w w' hS (hcn i (by rw [Array.getD_eq_getD_getElem?, Array.getElem?_setIfInBounds_self_of_lt hil]; rfl)) hji (by
                cases hwt : Region.waitsFor .any ops j i
                · rfl
                · exfalso
                  obtain ⟨o2, ho2, x, hx, hxb, hon⟩ := Region.waitsFor_spec hwt
                  obtain rfl : o2 = oj := Option.some.inj (ho2.symm.trans hoj)
                  have := hcl j o2 hoj hl x hx hxb
                  rw [hon, hunf] at this; cases this) (fun oj' hoj' e he hbe => hcn e.on (hget' _ (by
                obtain rfl : oj' = o := Option.some.inj (hoj'.symm.trans ho)
                exact hdeps e he hbe))) (hhold j oj hoj hl (fun q hq => hcn q (hget' q hq)))
      · have h1 := List.all_eq_true.1 ht j (List.mem_range.2 (Array.getElem?_eq_some_iff.1 hj').1)
        simp only [hj', Bool.or_eq_true, bne_iff_ne, beq_iff_eq] at h1
        rcases h1 with (h1 | h1) | h1
        · exact h1
        · subst h1; rw [hunf] at hl; cases hl
        · have := reachT_closed hcl 6 j i h1 hl
          rw [hunf] at this; cases this
      · have hd := hdeps e he hbe
        have hlt := hback' i o ho e he hbe
        refine hhold e.on ops[e.on] (Array.getElem?_eq_getElem (by have := (Array.getElem?_eq_some_iff.1 ho).1; omega)) hd (fun q hq => ?_)
        have hqs : q < ops.size := by
          by_cases h : q < ops.size
          · exact h
          · rw [Array.getD_eq_getD_getElem?, Array.getElem?_eq_none (by omega)] at hq; simp at hq
        cases hc : cons q e.on
        · rfl
        · have hqi := hcn q hqs hc
          subst hqi
          rw [hunf] at hq; cases hq

theorem wp_region_inv3e {id : Nat} {Q : Exit → Act → World → Prop} {a0 : Act} {w0 : World} (hm : P.follows .mixedOrders = true) (hp : plainG ops = true) (hgB : guardB ops = true) (hback : backB ops = true) (hptr : ptrB ops = true)
    (hdst : (ops.all fun o => match o.dst with | some t => decide (t < a0.tmps.size) | none => true) = true)
    (J : Nat → World → Prop) (S : Nat → World → World → Prop) (F : Nat → Value → World → Prop) (cons : Nat → Nat → Bool) (hJ : J 0 w0.drew) (hF : ∀ j i v w w', S j w w' → cons j i = false → i ≠ j → Region.waitsFor .any ops i j = false → (∀ oj, ops[j]? = some oj → ∀ e ∈ oj.after, Region.binds .any e = true → cons e.on i = false) → F i v w → F i v w')
    (hgrd : ∀ (i : Nat) (o : Oper) (d : Nat) (b : Bool), ops[i]? = some o → o.guard = some (d, b) → ∀ v w, F d v w → v = .bool b)
    (hop : ∀ (i : Nat) (o : Oper), ops[i]? = some o → ∀ (n : Nat) (a : Act) (w : World), n < ops.size → J n w →
      (∀ t, freshT ops i t = true → a.tmps.getD t undef = a0.tmps.getD t undef) →
      (∀ e ∈ o.after, Region.binds .any e = true → (∀ j, j < ops.size → cons j e.on = true → j = i) → F e.on (slotOf2 ops e.on a) w) →
      o.wp P a w (fun a' w' => ∃ v, a' = a.put o.dst v ∧ J (n + 1) w' ∧ S i w w' ∧ F i (if o.dst.isSome then v else slotOf2 ops i a) w') Q)
    (hcg : ∀ (i : Nat) (o : Oper) (d : Nat) (b : Bool), ops[i]? = some o → o.guard = some (d, b) → ∀ j, cons j d = false)
    (hend : ∀ (tm : Array Value) (w : World), J ops.size w → (∀ (i : Nat) (o : Oper), ops[i]? = some o → (∀ j, cons j i = false) → F i (slotOf2 ops i ⟨tm, a0.defers⟩) w) → Q .normal ⟨refillL ops.toList a0.tmps tm, a0.defers⟩ w) :
    (Code.region id ops true).wp P Q a0 w0 := by
  refine wp_region_inv2e hm hp hgB hback hptr hdst J S F cons hJ hF hgrd hop hcg ?_
  rintro ⟨tm, df⟩ w hj hsz hdf hb hFF
  obtain rfl : df = a0.defers := hdf
  have e := refill_eq hsz hb
  have := hend tm w hj hFF
  rw [← e] at this
  exact this

end
end Go.Proofs.Ytfdhaigmekmboaa

/- Walks: drawn stores. -/
namespace Go.Proofs.Ytfdhaigmekmboaa
open Go.RowKit

theorem setP_flat1 : ∀ (xs : List Pc) (j : Nat) (x : Pc) (r : Int), xs[j]? = some x → (xs.flatMap encP).set (j * 2) (.int .i64 r) = (xs.set j ⟨r, x.text⟩).flatMap encP
  | [], j, x, r, h => by simp at h
  | a :: t, 0, x, r, h => by simp at h; subst h; rfl
  | a :: t, j + 1, x, r, h => by
    have := setP_flat1 t j x r (by simpa using h)
    rw [List.set_cons_succ, List.flatMap_cons, List.flatMap_cons, ← this, show (j + 1) * 2 = j * 2 + 2 by omega]
    rfl
theorem setP_flat2 : ∀ (xs : List Pc) (j : Nat) (x : Pc) (u : ByteArray), xs[j]? = some x → (xs.flatMap encP).set (j * 2 + 1) (.string u) = (xs.set j ⟨x.print, u⟩).flatMap encP
  | [], j, x, u, h => by simp at h
  | a :: t, 0, x, u, h => by simp at h; subst h; rfl
  | a :: t, j + 1, x, u, h => by
    have := setP_flat2 t j x u (by simpa using h)
    rw [List.set_cons_succ, List.flatMap_cons, List.flatMap_cons, ← this, show (j + 1) * 2 + 1 = j * 2 + 1 + 2 by omega]
    rfl
theorem own_pc_set {w : World} {B g n c i : Nat} {xs ys : List Pc} {u : Value} (h : OwnP w B (.slice (some ⟨g, 0, none⟩) n c) xs) (hn : xs.length = n) (hi : i < n * 2) (hy : (xs.flatMap encP).set i u = ys.flatMap encP) (hl : ys.length = n) :
    OwnP (w.setCell ⟨g, i, none⟩ u) B (.slice (some ⟨g, 0, none⟩) n c) ys ∧ w.grownBy (w.setCell ⟨g, i, none⟩ u) (some g) ∧ (∃ x, w.cell? ⟨g, i, none⟩ = some x) ∧ w.frozen? ⟨g, i, none⟩ = false := by
  have h' : w.ownsRow B 45 2 (.slice (some ⟨g, 0, none⟩) n c) n (xs.flatMap encP) := by have := h; unfold OwnP Own at this; rwa [hn] at this
  have hs := h'.stored i u
  refine ⟨?_, hs.2, ?_, h'.frozenAt i⟩
  · have h3 := hs.1
    unfold OwnP Own
    rw [hl, ← hy]
    exact h3
  · have hx := h'.cellAt i hi
    have hlen : i < (xs.flatMap encP).length := by rw [flatP_len, hn]; exact hi
    exact ⟨_, hx.trans (List.getElem?_eq_getElem hlen)⟩
theorem own_pc_slice {w : World} {B n : Nat} {v : Value} {xs : List Pc} (h : OwnP w B v xs) (hn : xs.length = n) (h0 : 0 < n) : ∃ g cap, v = .slice (some ⟨g, 0, none⟩) n cap ∧ B ≤ g ∧ g < w.heap.size ∧ n ≤ cap := by
  rcases h.2 with ⟨_, hz⟩ | ⟨g, cap, cur, hv, hbg, hh, hnc, _⟩
  · exfalso
    cases xs with
    | nil => simp at hn; omega
    | cons a r => simp at hz
  · exact ⟨g, cap, by rw [hv, hn], hbg, (Array.getElem?_eq_some_iff.1 hh).1, by omega⟩
theorem good_nil : Good [] := ⟨rfl, fun _ => 0, fun n t h => by cases h⟩
theorem empty_good : (putS [] (strL (folderText []))).2.2 = true ∧ Good1 (putS [] (strL (folderText []))).1 := by
  have ht : textOk (bs (strL (folderText []))) = true := by rw [bs_strL]; exact folder_textOk rfl
  have hp := put_new (l := []) (t := strL (folderText [])) rfl ht rfl (by simp)
  have h2 : (putS [] (strL (folderText []))).2.2 = true := by rw [hp]
  refine ⟨h2, (goodL_put (good_nil.l (-1)) h2 (fun y hy => ?_)).good, ?_⟩
  · rw [nmd_folder rfl] at hy; simp at hy
  · rw [hp]; intro e; have := congrArg List.length e; rw [insP_len] at this; simp at this

/-- A drawn store and a root. -/
def StoreD (n : Int) (w : World) (g : Nat) (l : List Int) (p : Nat) (e : Ending) (w' : World) : Prop :=
  ∃ (v : Value) (xs : List Pc) (root : Int) (p' : Nat), e = .returned (.tuple #[v, .int .i64 root]) ∧ OwnP w' w.heap.size v xs ∧ (n ≤ 0 → Good1 xs) ∧ Drawn xs ∧ p' ≤ p + 30 ∧ Reader w' g l p' ∧ w.grownBy w' (some g)

def dsF (W0 : World) (sl : Value) (xs : List Pc) (gs : Nat) (x : Pc) : List (Value → World → Prop) :=
  [isEmpP W0.heap.size, isV sl, isOwnP W0.heap.size ([] ++ xs), isV sl, isV (.pointer (some ⟨gs, 0, none⟩)), isV (.agg #[.int .i64 x.print, .string x.text]), isLitP W0.heap.size x.print x.text,
   isOwnP W0.heap.size ([] ++ xs ++ [x]), isOwnP W0.heap.size ([] ++ xs ++ [x])]
def dsCons (j i : Nat) : Bool := (j == 2 && i == 0) || (j == 7 && (i == 2 || i == 6))
def dsS (j : Nat) (w w' : World) : Prop := w = w' ∨ Below w.heap.size w w' ∨ (j = 2 ∧ ∃ b, w.heap[b]? = some (.cells #[] 45 (0, 0)) ∧ w.grownBy w' (Value.ownBlock (.slice (some ⟨b, 0, none⟩) 0 0))) ∨ j = 7

set_option maxHeartbeats 2000000 in
set_option maxRecDepth 100000 in
theorem spec_l20Store_c (g p : Nat) (l : List Int) (nn : Int) (w : World) (h : Reader w g l p) (hp : p ≤ 1099511627) (hn0 : 0 ≤ nn) (hn9 : nn ≤ 1000000) :
    Calls Try.prog 39 #[.pointer (some ⟨g, 0, none⟩), .int .i64 nn] w (StoreD nn w g l p) := by
  have hgl : g < w.heap.size := h.lt
  have HR := hid h
  have hal : Below w.heap.size w (w.alloc (.cells #[] 45)) := (Below.refl _ _).alloc (Nat.le_refl _) _
  have hown0 : Hid (OwnP (w.alloc (.cells #[] 45)) w.heap.size (.slice (some ⟨w.heap.size, 0, none⟩) 0 0) []) := hid (Own.made _ (Nat.le_refl _))
  obtain ⟨⟨xs0, p0, ok0⟩, hE⟩ : ∃ P, putS [] (strL (folderText [])) = P := ⟨_, rfl⟩
  have HE := hid (show emptyRoot [] = (xs0, p0, ok0) from hE)
  have HG0 := hid (show Good1 xs0 by have := empty_good.2; rw [hE] at this; exact this)
  obtain ⟨i0, hi0, hz0, hz1, hz2⟩ := info_parts info_pcO
  clear h hE
  go_enter Try.func39, Try.ntmps39
  go_wp2_with fail
  refine (spec_EmptyRoot_c _ [] _ (Rd.of_own hown0.out) (by simp) (by simp)).mono ?_
  rw [HE.out]
  rintro e w1 ⟨v1, rfl, o1, b1⟩
  have d1 := hal.trans (b1.mono hal.size)
  have O1 := hid (o1.less hal.size)
  have R1 := hid (HR.out.on d1)
  have s1 := d1.size
  clear o1 b1 hal hown0
  go_wp2_with fail
  refine (spec_pick_c g p l 6 _ R1.out (by omega)).mono ?_
  rintro e w2 ⟨x, rfl, x0, x3, _, r2, g2⟩
  have R2 := hid r2
  have G2 := hid ((gb_of_below d1 (some g)).trans g2)
  have O2 := hid (O1.out.far g2 (fun b hb => by simp at hb; omega))
  have s2 := g2.size
  have x3' := x3 (by omega)
  obtain ⟨m, rfl⟩ : ∃ m : Nat, x = m := ⟨x.toNat, by omega⟩
  clear r2 g2 x3 O1 R1 d1
  go_wp2
  go_loopw [6, 7, 9] (fun sv rv kv wr => ∃ (q p' : Nat) (xs : List Pc) (root : Int), q ≤ m ∧ kv = .int .i64 q ∧ rv = .int .i64 root ∧ OwnP wr w.heap.size sv xs ∧ Hid (Good1 xs) ∧ p' + 4 * q ≤ p + 1 + 4 * m ∧ Hid (Reader wr g l p') ∧ Hid (w.grownBy wr (some g))) (fun _ _ k _ => (intOf k).toNat)
  case atStart => exact ⟨m, p + 1, xs0, p0, Nat.le_refl _, rfl, rfl, O2.out, HG0, by omega, R2, G2⟩
  case round =>
    obtain ⟨q, p', xs, root, hq, rfl, rfl, ho, HG, hp', R, G⟩ := hrel
    have hB := G.out.size
    by_cases hq0 : 0 < q
    · have HO := hid ho
      clear ho
      go_wp2_with fail
      refine (spec_l20Step_c g p' w.heap.size l _ xs root _ R.out (by omega) HO.out hgl hB HG.out).mono ?_
      rintro e w3 ⟨v3, xs3, root3, ok3, p3, rfl, o3, g3, hp3, r3, gg3⟩
      have O3 := hid o3
      have HG3 := hid g3
      have R3 := hid r3
      have G3 := hid (G.out.trans gg3)
      clear o3 g3 r3 gg3 HO R G
      go_wp2
      go_roundw
      case rel => exact ⟨q - 1, p3, xs3, root3, by omega, by go_num, rfl, O3.out, HG3, by omega, R3, G3⟩
      case measure => simp [intOf]; omega
    · obtain ⟨n, hn⟩ : ∃ n, xs.length = n := ⟨_, rfl⟩
      have HN := hid hn
      have hn40 : n ≤ 40 := by rw [← hn]; exact (st_in HG.out.1.1).1
      have hnp : 0 < n := by
        rw [← hn]
        have h0 := HG.out.2
        cases xs with
        | nil => exact absurd rfl h0
        | cons x r => simp
      obtain ⟨gs, c, rfl, hgs0, hgs, hnc⟩ := own_pc_slice ho hn hnp
      have HO := hid ho
      clear ho hn
      go_wp2_with fail
      refine (spec_odd_c g p' l nn _ R.out (by omega) hn0 hn9).mono ?_
      rintro e w4 ⟨y, p4, rfl, hy0, hp4, r4, g4⟩
      have s4 := g4.size
      have O4 := hid (HO.out.far g4 (fun b hb => by simp at hb; omega))
      have R4 := hid r4
      have G4 := hid (G.out.trans g4)
      have HZ := hid hy0
      clear r4 g4 HO R G hy0
      cases y
      · go_wp2
        go_ret2
        exact ⟨_, xs, root, p4, rfl, O4.out, fun _ => HG.out, HG.out.1.drawn HG.out.2, by omega, R4.out, G4.out⟩
      · go_wp2_with fail
        refine (spec_pick_c g p4 l 3 _ R4.out (by omega)).mono ?_
        rintro e w5 ⟨z, rfl, z0, z3, _, r5, g5⟩
        have s5 := g5.size
        have R5 := hid r5
        have G5 := hid (G4.out.trans g5)
        have O5 := hid (O4.out.far g5 (fun b hb => by simp at hb; omega))
        clear r5 g5 R4 G4 O4 z3
        by_cases hz0' : z = 0
        · have hzd : (z == 0) = true := by simp [hz0']
          clear hz0' z0
          have hal5 : Below w5.heap.size w5 (w5.alloc (.cells #[] 45)) := (Below.refl _ _).alloc (Nat.le_refl _) _
          go_wp2_with (at_builtin; refine wpList_cat (enc := encP) (w0 := w5.alloc (.cells #[] 45)) rfl _ _ 23 rfl w5.heap.size w5.heap.size 45 i0 _ 2 24 Try.underlying23 hi0 hz0 hz1 hz2 rfl (by decide) _ _ [] xs (Own.made w5 (Nat.le_refl _)) _ ((Rd.of_own O5.out).below hal5 (Nat.le_refl _)) (Below.refl _ _) (by simp) (Nat.le_refl _) rfl rfl encP_one (by have := HN.out; simp; omega) (by decide) ?_; intro v6 w6 hown' hb' hB' hg'; rw [List.nil_append] at hown'; obtain ⟨gt, ct, rfl, hgt0, hgt, hnct⟩ := own_pc_slice hown' HN.out hnp; have HO6 := hid hown'; have HB6 := hid (hal5.trans hb'); clear hown' hb' hg' hB')
          have b6 := HB6.out
          have hown' := HO6.out
          have O6 := hid (hown'.less (by omega : w.heap.size ≤ w5.heap.size))
          have R6 := hid (R5.out.on b6)
          have G6 := hid (G5.out.trans (gb_of_below b6 (some g)))
          have s6 := b6.size
          clear hown' HO6 HB6 b6 hal5 R5 G5 O5
          refine (spec_pick_c g _ l n _ R6.out (by omega)).mono ?_
          rintro e w7 ⟨jz, rfl, j0, j1, _, r7, g7⟩
          have j1' := j1 (by omega)
          obtain ⟨j, rfl⟩ : ∃ j : Nat, jz = j := ⟨jz.toNat, by omega⟩
          have hjn : j < n := by omega
          have hjn' : (j : Int) < n := by omega
          have s7 := g7.size
          have R7 := hid r7
          have G7 := hid (G6.out.trans g7)
          have O7 := hid (O6.out.far g7 (fun b hb => by simp at hb; omega))
          clear r7 g7 R6 G6 O6 j1 j0
          go_wp2_with fail
          refine (spec_pick_c g _ l 2 _ (R7.out.alloc _) (by omega)).mono ?_
          rintro e w8 ⟨iz, rfl, i00, i1, _, r8, g8⟩
          have i1' := i1 (by omega)
          obtain ⟨i, rfl⟩ : ∃ i : Nat, iz = i := ⟨iz.toNat, by omega⟩
          have hi2 : i < 2 := by omega
          have hh := (g8.block w7.heap.size (by simp) (some_ne (by omega))).trans (heap_alloc_new w7 _)
          obtain ⟨r, r0, r9, hr⟩ := intI_cell (lo := -1) (hi := 5) (t := 3) (cs := #[.int .i64 (-1), .int .i64 5]) (by rfl) hi2
          have hc := hr _ _ hh
          have s8 := g8.size
          have O8 := hid (((O7.out.alloc (.cells #[.int .i64 (-1), .int .i64 5] 3)).far g8 (fun b hb => by simp at hb; omega)))
          have R8 := hid r8
          have G8 := hid (G7.out.trans (gb_unalloc g8))
          obtain ⟨x, hx⟩ : ∃ x, xs[j]? = some x := ⟨xs[j]'(by have := HN.out; omega), List.getElem?_eq_getElem _⟩
          obtain ⟨o9, g9, ⟨y9, k9⟩, f9⟩ := own_pc_set (i := j * 2) (u := .int .i64 r) O8.out HN.out (by omega) (setP_flat1 xs j x r hx) (by simp [HN.out])
          have O9 := hid o9
          have HD := hid (drawn_print HG.out.1 HG.out.2 hx r)
          have R9 := hid (R8.out.kept g9 (fun b hb => by simp at hb; omega))
          have G9 := hid (show w.grownBy (w8.setCell ⟨gt, j * 2, none⟩ (.int .i64 r)) (some g) from gb_out G8.out g9 (fun b hb => .inr (by simp at hb; omega)))
          clear hh hr g8 r8 i1 R7 G7 O7 o9 g9 hx i00
          go_wp2
          go_ret2
          exact ⟨_, _, root, _, rfl, O9.out, fun h => (by have := HZ.out h; cases this), HD.out, by omega, R9.out, G9.out⟩
        · have hzd : (z == 0) = false := by simp [hz0']
          clear hz0'
          by_cases hz1' : z = 1
          · have hzd1 : (z == 1) = true := by simp [hz1']
            clear hz1' z0
            go_wp2
            refine drew_out w5 ⟨0, rfl⟩ ?_
            rintro W0 ⟨z00, hW0⟩
            have hw05 : Below w5.heap.size w5 W0 := by rw [hW0]; exact bl_drewN (Below.refl _ _) z00
            have hB0 : w.heap.size ≤ W0.heap.size := by have := hw05.size; omega
            have HH : Hid (Pcs W0 W0.heap.size (.slice (some ⟨gs, 0, none⟩) n c) xs) := hid ((Rd.of_own O5.out).on hw05)
            have hgsW : gs < W0.heap.size := by have := (O5.out.lt gs rfl).2; have := hw05.size; omega
            obtain ⟨a', c', hv', _, _, h3'⟩ := HH.out.pcs HN.out
            simp only [Value.slice.injEq] at hv'
            obtain ⟨rfl, _, rfl⟩ := hv'
            obtain ⟨b0, o0, r0, t0, hbo, hbl, hx0, k0, k1⟩ := h3' 0 hnp
            simp only [Option.some.injEq, Addr.mk.injEq, and_true] at hbo
            obtain ⟨rfl, rfl⟩ := hbo
            simp only [Nat.zero_mul, Nat.zero_add] at k0 k1
            have hgs := hgsW
            have hn0' : (0 : Int) < n := by omega
            have hn0 : 0 < n := hnp
            have R5' := hid (R5.out.on hw05)
            have G5' := hid (G5.out.trans (gb_of_below hw05 (some g)))
            clear h3' R5 G5 hW0 O5
            have R5 := R5'
            have G5 := G5'
            clear R5' G5'
            refine wp_region_inv3e rfl (by kernel_rfl) (by kernel_rfl) (by kernel_rfl) (by kernel_rfl) (by simp) (fun _ w' => Below W0.heap.size W0 w') (fun j w' w'' => dsS j w' w'') (fact (dsF W0 (.slice (some ⟨gs, 0, none⟩) n c) xs gs ⟨r0, t0⟩)) dsCons (Below.refl _ _).drew ?hF ?grd ?oo ?cg ?fin
            case hF =>
              intro j i v w' w'' hS hc hne hwt hdp hf
              have hi : i < 9 ∨ 9 ≤ i := by omega
              rcases hi with hi | hi
              · obtain rfl | rfl | rfl | rfl | rfl | rfl | rfl | rfl | rfl : i = 0 ∨ i = 1 ∨ i = 2 ∨ i = 3 ∨ i = 4 ∨ i = 5 ∨ i = 6 ∨ i = 7 ∨ i = 8 := by omega
                · rcases hS with rfl | hb | ⟨rfl, b, hh, hg⟩ | rfl
                  · exact hf
                  · obtain ⟨b0, h1, h2, h3, h4⟩ := hf; exact ⟨b0, h1, h2, (hb.block b0 (Array.getElem?_eq_some_iff.1 h3).1).trans h3, h4.on hb⟩
                  · simp [dsCons] at hc
                  · have h9 := hdp _ rfl ⟨2, .data⟩ (by simp) rfl; simp [dsCons] at h9
                · exact hf
                · rcases hS with rfl | hb | ⟨rfl, b, hh, hg⟩ | rfl
                  · exact hf
                  · exact Own.on hf hb
                  · exact absurd rfl hne
                  · simp [dsCons] at hc
                · exact hf
                · exact hf
                · exact hf
                · rcases hS with rfl | hb | ⟨rfl, b, hh, hg⟩ | rfl
                  · exact hf
                  · obtain ⟨b0, h1, h2, h3⟩ := hf; exact ⟨b0, h1, h2, (hb.block b0 (Array.getElem?_eq_some_iff.1 h3).1).trans h3⟩
                  · obtain ⟨b0, h1, h2, h3⟩ := hf; exact ⟨b0, h1, h2, (hg.block b0 (Array.getElem?_eq_some_iff.1 h3).1 (some_ne' (by rintro rfl; rw [hh] at h3; simp at h3))).trans h3⟩
                  · simp [dsCons] at hc
                · rcases hS with rfl | hb | ⟨rfl, b, hh, hg⟩ | rfl
                  · exact hf
                  · exact Own.on hf hb
                  · exact own_far_emp hf hh hg (by simp <;> omega)
                  · exact absurd rfl hne
                · rcases hS with rfl | hb | ⟨rfl, b, hh, hg⟩ | rfl
                  · exact hf
                  · exact Own.on hf hb
                  · exact own_far_emp hf hh hg (by simp <;> omega)
                  · exact absurd (hwt.symm.trans (c := true) (by kernel_rfl)) (by decide)
              · unfold fact at *; rw [List.getD_eq_getElem?_getD, List.getElem?_eq_none (by simpa [dsF] using hi)]; trivial
            case grd =>
              intro i oo d bb hi hg v w' hf
              obtain ⟨hlt1, rfl⟩ := Array.getElem?_eq_some_iff.1 hi
              have hlt' : i < 9 := hlt1
              clear hi
              obtain rfl | rfl | rfl | rfl | rfl | rfl | rfl | rfl | rfl : i = 0 ∨ i = 1 ∨ i = 2 ∨ i = 3 ∨ i = 4 ∨ i = 5 ∨ i = 6 ∨ i = 7 ∨ i = 8 := by omega
              all_goals simp at hg
            case cg =>
              intro i oo d bb hi hg j
              obtain ⟨hlt1, rfl⟩ := Array.getElem?_eq_some_iff.1 hi
              have hlt' : i < 9 := hlt1
              clear hi
              obtain rfl | rfl | rfl | rfl | rfl | rfl | rfl | rfl | rfl : i = 0 ∨ i = 1 ∨ i = 2 ∨ i = 3 ∨ i = 4 ∨ i = 5 ∨ i = 6 ∨ i = 7 ∨ i = 8 := by omega
              all_goals simp at hg
            case oo =>
              intro i oo hi qn a' wk hnn hj hb' hd
              obtain ⟨hlt1, rfl⟩ := Array.getElem?_eq_some_iff.1 hi
              have hlt' : i < 9 := hlt1
              clear hi
              obtain rfl | rfl | rfl | rfl | rfl | rfl | rfl | rfl | rfl : i = 0 ∨ i = 1 ∨ i = 2 ∨ i = 3 ∨ i = 4 ∨ i = 5 ∨ i = 6 ∨ i = 7 ∨ i = 8 := by omega
              · exact iv_val (v := .slice (some ⟨wk.heap.size, 0, none⟩) 0 0) (w' := wk.alloc (.cells #[] 45)) (by simp [execOp, go_sem, Result.andThen]) ⟨_, rfl, hj.alloc hj.size _, .inr (.inl ((Below.refl _ _).alloc (Nat.le_refl _) _)), (show isEmpP _ _ _ from ⟨_, rfl, hj.size, heap_alloc_new _ _, Own.made _ hj.size⟩)⟩
              · have b6 : a'.eval (.tmp 6) = .slice (some ⟨gs, 0, none⟩) n c := hb' 6 (by kernel_rfl); have c6 := ev_get b6
                exact iv_val (v := .slice (some ⟨gs, 0, none⟩) n c) (by simp [execOp, b6]) ⟨_, rfl, hj, .inl rfl, rfl⟩
              · have e0 : isEmpP W0.heap.size (a'.eval (.tmp 63)) wk := hd ⟨0, .data⟩ (by simp) rfl (by intro j _ hc; revert hc; unfold dsCons; simp; try omega)
                obtain ⟨b0, v0, hb0, hh0, o0⟩ := e0
                have v1 : a'.eval (.tmp 64) = .slice (some ⟨gs, 0, none⟩) n c := hd ⟨1, .data⟩ (by simp) rfl (by intro j _ hc; revert hc; unfold dsCons; simp; try omega)
                obtain ⟨i0, hi0, hz0, hz1, hz2⟩ := info_parts info_pcO
                refine wp_cat (enc := encP) wk (.tmp 63) (.tmp 64) 23 rfl W0.heap.size 45 i0 _ 2 24 Try.underlying23 hi0 hz0 hz1 hz2 rfl (by decide) (a'.eval (.tmp 63)) (.slice (some ⟨gs, 0, none⟩) n c) [] xs rfl v1 o0 _ (HH.out.below hj (Nat.le_refl _)) encP_one (by have := HN.out; simp <;> omega) (by decide) hj.size ?_
                intro v' w' ho hg hg'
                rw [v0] at hg
                exact ⟨_, rfl, hj.grown hg hj.size (fun g hg1 => by simp [Value.ownBlock] at hg1; omega), .inr (.inr (.inl ⟨rfl, b0, hh0, hg⟩)), (show isOwnP _ _ _ _ from ho)⟩
              · have b6 : a'.eval (.tmp 6) = .slice (some ⟨gs, 0, none⟩) n c := hb' 6 (by kernel_rfl); have c6 := ev_get b6
                exact iv_val (v := .slice (some ⟨gs, 0, none⟩) n c) (by simp [execOp, b6]) ⟨_, rfl, hj, .inl rfl, rfl⟩
              · have v3 : a'.eval (.tmp 66) = .slice (some ⟨gs, 0, none⟩) n c := hd ⟨3, .data⟩ (by simp) rfl (by intro j _ hc; revert hc; unfold dsCons; simp; try omega); have u3 := ev_get v3
                exact iv_val (v := .pointer (some ⟨gs, 0, none⟩)) (by simp [execOp, u3, hn0, go_sem, Result.andThen]) ⟨_, rfl, hj, .inl rfl, rfl⟩
              · have v4 : a'.eval (.tmp 67) = .pointer (some ⟨gs, 0, none⟩) := hd ⟨4, .data⟩ (by simp) rfl (by intro j _ hc; revert hc; unfold dsCons; simp; try omega); have u4 := ev_get v4
                have x0 := (hj.cell (p := ⟨gs, 0, none⟩) hgs).trans k0
                have x1 := (hj.cell (p := ⟨gs, 1, none⟩) hgs).trans k1
                exact iv_val (v := .agg #[.int .i64 r0, .string t0]) (by simp [execOp, u4, x0, x1, go_sem, Result.andThen]) ⟨_, rfl, hj, .inl rfl, rfl⟩
              · have v5 : a'.eval (.tmp 68) = .agg #[.int .i64 r0, .string t0] := hd ⟨5, .data⟩ (by simp) rfl (by intro j _ hc; revert hc; unfold dsCons; simp; try omega); have u5 := ev_get v5
                exact iv_val (v := .slice (some ⟨wk.heap.size, 0, none⟩) 1 1) (w' := wk.alloc (.cells #[.int .i64 r0, .string t0] 45)) (by simp [execOp, u5, go_sem, Result.andThen]) ⟨_, rfl, hj.alloc hj.size _, .inr (.inl ((Below.refl _ _).alloc (Nat.le_refl _) _)), (show isLitP _ _ _ _ _ from ⟨_, rfl, hj.size, heap_alloc_new _ _⟩)⟩
              · have e4 : isOwnP W0.heap.size ([] ++ xs) (a'.eval (.tmp 65)) wk := hd ⟨2, .data⟩ (by simp) rfl (by intro j _ hc; revert hc; unfold dsCons; simp; try omega)
                have e8 : isLitP W0.heap.size r0 t0 (a'.eval (.tmp 69)) wk := hd ⟨6, .data⟩ (by simp) rfl (by intro j _ hc; revert hc; unfold dsCons; simp; try omega)
                obtain ⟨b8, v8, hb8, hh8⟩ := e8
                obtain ⟨i0, hi0, hz0, hz1, hz2⟩ := info_parts info_pcO
                refine wp_cat (enc := encP) wk (.tmp 65) (.tmp 69) 23 rfl W0.heap.size 45 i0 _ 2 24 Try.underlying23 hi0 hz0 hz1 hz2 rfl (by decide) (a'.eval (.tmp 65)) (.slice (some ⟨b8, 0, none⟩) 1 1) ([] ++ xs) [(⟨r0, t0⟩ : Pc)] rfl v8 e4 _ (lit_rdP hh8) encP_one (by have := HN.out; simp <;> omega) (by decide) hj.size ?_
                intro v' w' ho hg hg'
                exact ⟨_, rfl, hj.grown hg hj.size (fun g hg1 => (Own.lt e4 g hg1).1), .inr (.inr (.inr rfl)), (show isOwnP _ _ _ _ from ho)⟩
              · have e13 : isOwnP W0.heap.size ([] ++ xs ++ [(⟨r0, t0⟩ : Pc)]) (a'.eval (.tmp 70)) wk := hd ⟨7, .data⟩ (by simp) rfl (by intro j _ hc; revert hc; unfold dsCons; simp; try omega)
                exact iv_val (v := a'.eval (.tmp 70)) (by simp [execOp]) ⟨_, rfl, hj, .inl rfl, e13⟩
            case fin =>
              intro tm w9 hj hF
              have o15 : OwnP w9 W0.heap.size (tm.getD 6 undef) ([] ++ xs ++ [(⟨r0, t0⟩ : Pc)]) := hF 8 _ rfl (fun j => by unfold dsCons; simp)
              rw [List.nil_append] at o15
              clear hF
              simp only [refillL, List.setIfInBounds_toArray, List.set_cons_succ, List.set_cons_zero]
              obtain ⟨sv, hsv⟩ : ∃ sv, tm.getD 6 undef = sv := ⟨_, rfl⟩
              rw [hsv] at o15 ⊢
              clear hsv
              have O15 := hid o15
              have R15 := hid (R5.out.on hj)
              have G15 := hid (G5.out.trans (gb_of_below hj (some g)))
              clear o15 hj
              go_wp2
              go_ret2
              exact ⟨sv, _, root, _, rfl, O15.out.less hB0, fun h => (by have := HZ.out h; cases this), drawn_twice HG.out.1 hx0.out, by omega, R15.out, G15.out⟩
          · have hzd1 : (z == 1) = false := by simp [hz1']
            clear hz1'
            have hal5 : Below w5.heap.size w5 (w5.alloc (.cells #[] 45)) := (Below.refl _ _).alloc (Nat.le_refl _) _
            go_upto_region 9 with (at_builtin; refine wpList_cat (enc := encP) (w0 := w5.alloc (.cells #[] 45)) rfl _ _ 23 rfl w5.heap.size w5.heap.size 45 i0 _ 2 24 Try.underlying23 hi0 hz0 hz1 hz2 rfl (by decide) _ _ [] xs (Own.made w5 (Nat.le_refl _)) _ ((Rd.of_own O5.out).below hal5 (Nat.le_refl _)) (Below.refl _ _) (by simp) (Nat.le_refl _) rfl rfl encP_one (by have := HN.out; simp; omega) (by decide) ?_; intro v6 w6 hown' hb' hB' hg'; rw [List.nil_append] at hown'; obtain ⟨gt, ct, rfl, hgt0, hgt, hnct⟩ := own_pc_slice hown' HN.out hnp; have HO6 := hid hown'; have HB6 := hid (hal5.trans hb'); clear hown' hb' hg' hB')
            have b6 := HB6.out
            have hown' := HO6.out
            have O6 := hid (hown'.less (by omega : w.heap.size ≤ w5.heap.size))
            have R6 := hid (R5.out.on b6)
            have G6 := hid (G5.out.trans (gb_of_below b6 (some g)))
            have s6 := b6.size
            obtain ⟨j, rfl⟩ : ∃ j : Nat, n = j + 1 := ⟨n - 1, by omega⟩
            have hw1 : IntKind.i64.wrap (((j + 1 : Nat) : Int) - 1) = (j : Int) := by rw [show ((j + 1 : Nat) : Int) - 1 = (j : Int) by omega]; exact IntWalk.i64_in _ (by omega)
            have hw2 : ((j + 1 : Nat) : Int) - 1 = (j : Int) := by omega
            have hjn' : (j : Int) < ((j + 1 : Nat) : Int) := by omega
            obtain ⟨x, hx⟩ : ∃ x, xs[j]? = some x := ⟨xs[j]'(by have := HN.out; omega), List.getElem?_eq_getElem _⟩
            obtain ⟨o9, g9, ⟨y9, k9⟩, f9⟩ := own_pc_set (i := j * 2 + 1) (u := .string TURNED) O6.out HN.out (by omega) (setP_flat2 xs j x TURNED hx) (by simp [HN.out])
            have O9 := hid o9
            have HD := hid (drawn_text HG.out.1 HG.out.2 hx)
            have R9 := hid (R6.out.kept g9 (fun b hb => by simp at hb; omega))
            have G9 := hid (show w.grownBy (w6.setCell ⟨gt, j * 2 + 1, none⟩ (.string TURNED)) (some g) from gb_out G6.out g9 (fun b hb => .inr (by simp at hb; omega)))
            clear hown' HO6 HB6 b6 hal5 R5 G5 O5 o9 g9 hx
            go_wp2
            go_ret2
            exact ⟨_, _, root, _, rfl, O9.out, fun h => (by have := HZ.out h; cases this), HD.out, by omega, R9.out, G9.out⟩

end Go.Proofs.Ytfdhaigmekmboaa

/- Walks: drawn prints. -/
namespace Go.Proofs.Ytfdhaigmekmboaa
open Go.RowKit

theorem ofRow {w : World} {b : Nat} {cs : Array Value} {t : TypeId} (h : w.heap[b]? = some (.cells cs t (0, 0))) (j : Nat) {v : Value} (hv : cs[j]? = some v) : w.cell? ⟨b, j, none⟩ = some v := by simp [World.cell?, h, hv]
theorem first_heap2 (w : World) (o o' : Obj) : ((w.alloc o).alloc o').heap[w.heap.size]? = some o :=
  (Below.heap_alloc (w.alloc o) o' _ (by simp)).trans (heap_alloc_new w o)

/-- A number; the reader has been asked at most k times more. -/
def Numbered (k : Nat) (w : World) (g : Nat) (l : List Int) (p : Nat) (e : Ending) (w' : World) : Prop :=
  ∃ (x : Int) (p' : Nat), e = .returned (.int .i64 x) ∧ p' ≤ p + k ∧ Reader w' g l p' ∧ w.grownBy w' (some g)


end Go.Proofs.Ytfdhaigmekmboaa

/- A region that draws its order, held by an invariant that knows which operations are done. No program in sight. -/
namespace Go.Proofs.Ytfdhaigmekmboaa
open Go.RowKit

section
variable {P : Program} {ops : Array Oper}
theorem wp_region_inv2f {id : Nat} {Q : Exit → Act → World → Prop} {a0 : Act} {w0 : World} (hm : P.follows .mixedOrders = true) (hp : plainG ops = true) (hgB : guardB ops = true) (hback : backB ops = true) (hptr : ptrB ops = true)
    (hdst : (ops.all fun o => match o.dst with | some t => decide (t < a0.tmps.size) | none => true) = true)
    (J : (Nat → Bool) → Nat → World → Prop) (S : Nat → World → World → Prop) (F : Nat → Value → World → Prop) (cons : Nat → Nat → Bool) (hJ : J (fun _ => false) 0 w0.drew) (hF : ∀ j i v w w', S j w w' → cons j i = false → i ≠ j → Region.waitsFor .any ops i j = false → (∀ oj, ops[j]? = some oj → ∀ e ∈ oj.after, Region.binds .any e = true → cons e.on i = false) → F i v w → F i v w')
    (hgrd : ∀ (i : Nat) (o : Oper) (d : Nat) (b : Bool), ops[i]? = some o → o.guard = some (d, b) → ∀ v w, F d v w → v = .bool b)
    (hop : ∀ (i : Nat) (o : Oper), ops[i]? = some o → ∀ (L : Nat → Bool) (n : Nat) (a : Act) (w : World), n < ops.size → L i = false → J L n w →
      (∀ t, freshT ops i t = true → a.tmps.getD t undef = a0.tmps.getD t undef) →
      (∀ e ∈ o.after, Region.binds .any e = true → (∀ j, j < ops.size → cons j e.on = true → j = i) → F e.on (slotOf2 ops e.on a) w) →
      o.wp P a w (fun a' w' => ∃ v, a' = a.put o.dst v ∧ J (fun k => if k = i then true else L k) (n + 1) w' ∧ S i w w' ∧ F i (if o.dst.isSome then v else slotOf2 ops i a) w') Q)
    (hcg : ∀ (i : Nat) (o : Oper) (d : Nat) (b : Bool), ops[i]? = some o → o.guard = some (d, b) → ∀ j, cons j d = false)
    (hend : ∀ (a : Act) (w : World), (∃ L : Nat → Bool, (∀ i, i < ops.size → L i = true) ∧ J L ops.size w) → a.tmps.size = a0.tmps.size → a.defers = a0.defers → (∀ t, looseB ops t = true → a.tmps.getD t undef = a0.tmps.getD t undef) → (∀ (i : Nat) (o : Oper), ops[i]? = some o → (∀ j, cons j i = false) → F i (slotOf2 ops i a) w) → Q .normal a w) :
    (Code.region id ops true).wp P Q a0 w0 := by
  refine wp_region_any hm ?_
  have hdst' : ∀ (i : Nat) (o : Oper) (t : Tmp), ops[i]? = some o → o.dst = some t → t < a0.tmps.size := by
    intro i o t hi ht
    have hlt := (Array.getElem?_eq_some_iff.1 hi)
    obtain ⟨hlt, he⟩ := hlt
    have h1 := Array.all_eq_true.1 hdst i hlt
    rw [he, ht] at h1
    exact of_decide_eq_true h1
  have hback' : ∀ (i : Nat) (o : Oper), ops[i]? = some o → ∀ e ∈ o.after, Region.binds .any e = true → e.on < i := by
    intro i o hi e he hbe
    have h1 := List.all_eq_true.1 hback i (List.mem_range.2 (Array.getElem?_eq_some_iff.1 hi).1)
    simp only [hi] at h1
    obtain ⟨k, hk, hke⟩ := Array.getElem_of_mem he
    have h2 := Array.all_eq_true.1 h1 k hk
    rw [hke, hbe] at h2
    exact of_decide_eq_true (by simpa using h2)
  suffices H : ∀ (f n : Nat) (listed : Array Bool) (a : Act) (w : World), listed.size = ops.size → listed.toList.count false = f → n + f = ops.size → J (fun k => listed.getD k false) n w → a.tmps.size = a0.tmps.size → a.defers = a0.defers →
      (∀ j o, ops[j]? = some o → listed.getD j false = true → ∀ e ∈ o.after, Region.binds .any e = true → listed.getD e.on false = true) →
      (∀ t, (∀ (i : Nat) (o : Oper), ops[i]? = some o → listed.getD i false = true → o.dst ≠ some t) → a.tmps.getD t undef = a0.tmps.getD t undef) →
      (∀ (i : Nat) (o : Oper), ops[i]? = some o → listed.getD i false = true → (∀ j, listed.getD j false = true → cons j i = false) → F i (slotOf2 ops i a) w) → wpAny P .any ops Q f listed a w by
    have hJ' : J (fun k => (Array.replicate ops.size false).getD k false) 0 w0.drew := by
      have e : (fun k => (Array.replicate ops.size false).getD k false) = fun _ => false := funext fun k => getD_replicate_false _ _
      rw [e]; exact hJ
    refine H _ 0 _ _ _ (by simp) (by simp) (by simp) hJ' rfl rfl ?_ ?_ ?_
    · intro j o _ h; rw [getD_replicate_false] at h; cases h
    · intro t _; rfl
    · intro i o _ h; rw [getD_replicate_false] at h; cases h
  intro f
  induction f with
  | zero =>
    intro n listed a w hs hc hnf hj hsz hdf _ hsame hhold
    obtain rfl : n = ops.size := by omega
    have hall : ∀ i, i < ops.size → listed.getD i false = true := by
      intro i hi
      have hnot : false ∉ listed.toList := List.count_eq_zero.1 hc
      rw [Array.getD_eq_getD_getElem?, Array.getElem?_eq_getElem (by omega)]
      simp only [Option.getD_some]
      cases hv : listed[i]'(by omega) with
      | true => rfl
      | false => exact absurd (by rw [← hv]; simp) hnot
    refine ⟨?_, hend a w ⟨_, hall, hj⟩ hsz hdf (fun t ht => hsame t fun i o hi _ => ?_) (fun i o hi hcn => hhold i o hi (hall i (Array.getElem?_eq_some_iff.1 hi).1) (fun j _ => hcn j))⟩
    · rw [List.eq_nil_iff_forall_not_mem]
      intro i hi
      obtain ⟨h1, o, ho, _⟩ := mem_ready.1 hi
      have h2 := hall i (Array.getElem?_eq_some_iff.1 ho).1
      rw [Array.getD_eq_getD_getElem?, Array.getElem?_eq_getElem (by have := (Array.getElem?_eq_some_iff.1 ho).1; omega)] at h1 h2
      simp only [Option.getD_some] at h1 h2
      rw [h1] at h2; cases h2
    · have hl := Array.all_eq_true.1 ht i (Array.getElem?_eq_some_iff.1 hi).1
      rw [(Array.getElem?_eq_some_iff.1 hi).2] at hl
      simpa using hl
  | succ f ih =>
    intro n listed a w hs hc hnf hj hsz hdf hcl hsame hhold
    refine ⟨fun h0 => ?_, fun i hi => ?_⟩
    · exfalso
      have hmem : false ∈ listed.toList := List.count_pos_iff.1 (by omega)
      have hex : ∃ i, i < ops.size ∧ listed.getD i true = false := by
        obtain ⟨k, hk, hke⟩ := List.getElem_of_mem hmem
        refine ⟨k, by simpa [hs] using hk, ?_⟩
        rw [Array.getD_eq_getD_getElem?, Array.getElem?_eq_getElem (by simpa using hk)]
        simpa using hke
      obtain ⟨i, ⟨hi, hf⟩, hmin⟩ := exists_least hex
      have hr : i ∈ Region.ready .any ops listed := mem_ready.2 ⟨hf, ops[i], Array.getElem?_eq_getElem hi, fun e he hbe => by
        have hlt := hback' i _ (Array.getElem?_eq_getElem hi) e he hbe
        have := hmin e.on hlt
        rw [Array.getD_eq_getD_getElem?, Array.getElem?_eq_getElem (by omega)] at this ⊢
        simp only [Option.getD_some] at this ⊢
        cases hv : listed[e.on]'(by omega) with
        | true => rfl
        | false => exact absurd ⟨by omega, hv⟩ this⟩
      rw [h0] at hr; cases hr
    · obtain ⟨hun, o, ho, hdeps⟩ := mem_ready.1 hi
      have hil : i < listed.size := by rw [hs]; exact (Array.getElem?_eq_some_iff.1 ho).1
      have hunf : listed.getD i false = false := by
        rw [Array.getD_eq_getD_getElem?, Array.getElem?_eq_getElem hil] at hun ⊢
        simpa using hun
      have hslot := plainG_spec hp ho
      have hwant : Region.wanted o (yielded ops a.tmps) = true := by
        unfold Region.wanted
        cases hgd : o.guard with
        | none => rfl
        | some db =>
          obtain ⟨d, b⟩ := db
          obtain ⟨e, he, hed, hbe, od, hod, t, ht⟩ := guardB_spec hgB ho hgd
          have hl := hdeps e he hbe
          rw [hed] at hl
          have hv := hgrd i o d b ho hgd _ _ (hhold d od hod hl (fun j _ => hcg i o d b ho hgd j))
          have hs2 : slotOf2 ops d a = a.tmps.getD t undef := by unfold slotOf2; rw [hod]; simp [refOf, ht]
          rw [hs2] at hv
          have hy : yielded ops a.tmps d = some b := by
            unfold yielded
            rw [hod]
            simp only [Option.bind_some, ht]
            rw [Array.getD_eq_getD_getElem?] at hv
            cases hx : a.tmps[t]? with
            | none => rw [hx] at hv; simp [undef] at hv
            | some x => rw [hx] at hv; simp at hv; rw [hv]
          simp [hy]
      unfold wpOp
      simp only [ho]
      rw [if_pos hwant]
      refine .inl (Oper.wp_mono ?_ (hop i o ho _ n a w (by omega) hunf hj (fun t ht => hsame t fun j o' hj' hl => ?_) (fun e he hbe hcn => ?_)))
      · rintro a' w' ⟨v, rfl, hj', hS, hF'⟩
        have hother : ∀ j o', ops[j]? = some o' → j ≠ i → listed.getD j false = true → slotOf2 ops j (a.put o.dst v) = slotOf2 ops j a := by
          intro j o' hj2 hne hl
          unfold slotOf2
          rw [hj2]
          simp only [Option.bind_some]
          cases ht : refOf o' with
          | none => simp
          | some t =>
            simp only
            cases hd : o.dst with
            | none => simp [Act.put]
            | some u =>
              rw [getD_put _ _ _ _ (by rw [hsz]; exact hdst' i o u ho hd), if_neg]
              rintro rfl
              cases hod : o'.dst with
              | some t' =>
                simp only [refOf, hod, Option.some.injEq] at ht
                subst ht
                exact hslot j o' _ hj2 hne hd hod
              | none =>
                simp only [refOf, hod] at ht
                rcases ptrB_spec hptr hj2 hod ht with hall | ⟨e, he, hbe, o2, ho2, hd2⟩
                · exact hall i o ho hd
                · have hle := hcl j o' hj2 hl e he hbe
                  have hei : e.on ≠ i := by rintro h; rw [h, hunf] at hle; cases hle
                  exact hslot e.on o2 _ ho2 hei hd hd2
        have hget : ∀ j, (listed.setIfInBounds i true).getD j false = true → j = i ∨ listed.getD j false = true := by
          intro j hjl
          by_cases hji : j = i
          · exact .inl hji
          · right
            rw [Array.getD_eq_getD_getElem?, Array.getElem?_setIfInBounds_ne (Ne.symm hji)] at hjl
            rw [Array.getD_eq_getD_getElem?]; exact hjl
        have hget' : ∀ j, listed.getD j false = true → (listed.setIfInBounds i true).getD j false = true := by
          intro j hjl
          by_cases hji : j = i
          · rw [hji] at hjl; rw [hunf] at hjl; cases hjl
          · rw [Array.getD_eq_getD_getElem?, Array.getElem?_setIfInBounds_ne (Ne.symm hji)]
            rw [Array.getD_eq_getD_getElem?] at hjl; exact hjl
        refine ih (n + 1) _ _ _ (by simpa using hs) (by have := count_step listed i hun; omega) (by omega) (by
          have e : (fun k => (listed.setIfInBounds i true).getD k false) = fun k => if k = i then true else listed.getD k false := funext fun k => by
            by_cases hki : k = i
            · rw [if_pos hki, hki, Array.getD_eq_getD_getElem?, Array.getElem?_setIfInBounds_self_of_lt hil]; rfl
            · rw [if_neg hki, Array.getD_eq_getD_getElem?, Array.getElem?_setIfInBounds_ne (Ne.symm hki), ← Array.getD_eq_getD_getElem?]
          rw [e]; exact hj') ?_ ?_ ?_ ?_ ?_
        · unfold Act.put; cases o.dst <;> simp [hsz]
        · unfold Act.put; cases o.dst <;> simp [hdf]
        · intro j oj hoj hl e he hbe
          rcases hget j hl with rfl | hl
          · obtain rfl : oj = o := Option.some.inj (hoj.symm.trans ho)
            exact hget' _ (hdeps e he hbe)
          · exact hget' _ (hcl j oj hoj hl e he hbe)
        · intro t ht
          have hne : o.dst ≠ some t := ht i o ho (by rw [Array.getD_eq_getD_getElem?, Array.getElem?_setIfInBounds_self_of_lt hil]; rfl)
          rw [← hsame t (fun j oj hoj hl => ht j oj hoj (hget' j hl))]
          cases hd : o.dst with
          | none => simp [Act.put]
          | some u =>
            rw [getD_put _ _ _ _ (by rw [hsz]; exact hdst' i o u ho hd), if_neg]
            rintro rfl
            exact hne hd
        · intro j oj hoj hl hcn
          by_cases hji : j = i
          · subst hji
            obtain rfl : oj = o := Option.some.inj (hoj.symm.trans ho)
            have : slotOf2 ops j (a.put oj.dst v) = if oj.dst.isSome then v else slotOf2 ops j a := by
              cases hd : oj.dst with
              | none => simp [Act.put]
              | some u =>
                unfold slotOf2
                rw [hoj]
                simp only [Option.bind_some, refOf, hd]
                rw [getD_put _ _ _ _ (by rw [hsz]; exact hdst' j oj u hoj hd)]
                simp
            rw [this]; exact hF'
          · rcases hget j hl with h | hl
            · exact absurd h hji
            · rw [hother j oj hoj hji hl]
              exact hF i j _ w w' hS (hcn i (by rw [Array.getD_eq_getD_getElem?, Array.getElem?_setIfInBounds_self_of_lt hil]; rfl)) hji (by
                cases hwt : Region.waitsFor .any ops j i
                · rfl
                · exfalso
                  obtain ⟨o2, ho2, x, hx, hxb, hon⟩ := Region.waitsFor_spec hwt
                  obtain rfl : o2 = oj := Option.some.inj (ho2.symm.trans hoj)
                  have := hcl j o2 hoj hl x hx hxb
                  rw [hon, hunf] at this; cases this) (fun oj' hoj' e he hbe => hcn e.on (hget' _ (by
                obtain rfl : oj' = o := Option.some.inj (hoj'.symm.trans ho)
                exact hdeps e he hbe))) (hhold j oj hoj hl (fun q hq => hcn q (hget' q hq)))
      · have h1 := List.all_eq_true.1 ht j (List.mem_range.2 (Array.getElem?_eq_some_iff.1 hj').1)
        simp only [hj', Bool.or_eq_true, bne_iff_ne, beq_iff_eq] at h1
        rcases h1 with (h1 | h1) | h1
        · exact h1
        · subst h1; rw [hunf] at hl; cases hl
        · have := reachT_closed hcl 6 j i h1 hl
          rw [hunf] at this; cases this
      · have hd := hdeps e he hbe
        have hlt := hback' i o ho e he hbe
        refine hhold e.on ops[e.on] (Array.getElem?_eq_getElem (by have := (Array.getElem?_eq_some_iff.1 ho).1; omega)) hd (fun q hq => ?_)
        have hqs : q < ops.size := by
          by_cases h : q < ops.size
          · exact h
          · rw [Array.getD_eq_getD_getElem?, Array.getElem?_eq_none (by omega)] at hq; simp at hq
        cases hc : cons q e.on
        · rfl
        · have hqi := hcn q hqs hc
          subst hqi
          rw [hunf] at hq; cases hq

theorem wp_region_inv3f {id : Nat} {Q : Exit → Act → World → Prop} {a0 : Act} {w0 : World} (hm : P.follows .mixedOrders = true) (hp : plainG ops = true) (hgB : guardB ops = true) (hback : backB ops = true) (hptr : ptrB ops = true)
    (hdst : (ops.all fun o => match o.dst with | some t => decide (t < a0.tmps.size) | none => true) = true)
    (J : (Nat → Bool) → Nat → World → Prop) (S : Nat → World → World → Prop) (F : Nat → Value → World → Prop) (cons : Nat → Nat → Bool) (hJ : J (fun _ => false) 0 w0.drew) (hF : ∀ j i v w w', S j w w' → cons j i = false → i ≠ j → Region.waitsFor .any ops i j = false → (∀ oj, ops[j]? = some oj → ∀ e ∈ oj.after, Region.binds .any e = true → cons e.on i = false) → F i v w → F i v w')
    (hgrd : ∀ (i : Nat) (o : Oper) (d : Nat) (b : Bool), ops[i]? = some o → o.guard = some (d, b) → ∀ v w, F d v w → v = .bool b)
    (hop : ∀ (i : Nat) (o : Oper), ops[i]? = some o → ∀ (L : Nat → Bool) (n : Nat) (a : Act) (w : World), n < ops.size → L i = false → J L n w →
      (∀ t, freshT ops i t = true → a.tmps.getD t undef = a0.tmps.getD t undef) →
      (∀ e ∈ o.after, Region.binds .any e = true → (∀ j, j < ops.size → cons j e.on = true → j = i) → F e.on (slotOf2 ops e.on a) w) →
      o.wp P a w (fun a' w' => ∃ v, a' = a.put o.dst v ∧ J (fun k => if k = i then true else L k) (n + 1) w' ∧ S i w w' ∧ F i (if o.dst.isSome then v else slotOf2 ops i a) w') Q)
    (hcg : ∀ (i : Nat) (o : Oper) (d : Nat) (b : Bool), ops[i]? = some o → o.guard = some (d, b) → ∀ j, cons j d = false)
    (hend : ∀ (tm : Array Value) (w : World), (∃ L : Nat → Bool, (∀ i, i < ops.size → L i = true) ∧ J L ops.size w) → (∀ (i : Nat) (o : Oper), ops[i]? = some o → (∀ j, cons j i = false) → F i (slotOf2 ops i ⟨tm, a0.defers⟩) w) → Q .normal ⟨refillL ops.toList a0.tmps tm, a0.defers⟩ w) :
    (Code.region id ops true).wp P Q a0 w0 := by
  refine wp_region_inv2f hm hp hgB hback hptr hdst J S F cons hJ hF hgrd hop hcg ?_
  rintro ⟨tm, df⟩ w hj hsz hdf hb hFF
  obtain rfl : df = a0.defers := hdf
  have e := refill_eq hsz hb
  have := hend tm w hj hFF
  rw [← e] at this
  exact this

end
end Go.Proofs.Ytfdhaigmekmboaa

/- Walks: what roots reach, the program's way. -/
namespace Go.Proofs.Ytfdhaigmekmboaa
open Go.RowKit

/-- From a world to another one all blocks stay but some. -/
structure Frm (S : Nat → Prop) (w w' : World) : Prop where
  os : w'.os = w.os
  tape : w'.tape = w.tape
  output : w'.output = w.output
  size : w.heap.size ≤ w'.heap.size
  block : ∀ k, k < w.heap.size → ¬ S k → w'.heap[k]? = w.heap[k]?
theorem Frm.refl (S : Nat → Prop) (w : World) : Frm S w w := ⟨rfl, rfl, rfl, Nat.le_refl _, fun _ _ _ => rfl⟩
theorem Frm.below {S : Nat → Prop} {w w' : World} {B : Nat} (h : Frm S w w') (hS : ∀ k, S k → B ≤ k) (hB : B ≤ w.heap.size) : Below B w w' :=
  ⟨h.os, h.tape, h.output, h.size, fun k hk => h.block k (by omega) (fun e => by have := hS k e; omega)⟩
theorem Frm.of_below {S : Nat → Prop} {w w' : World} (h : Below w.heap.size w w') : Frm S w w' := ⟨h.os, h.tape, h.output, h.size, fun k hk _ => h.block k hk⟩
theorem Frm.of_grown {S : Nat → Prop} {w w' : World} {row : Option Nat} (h : w.grownBy w' row) (hr : ∀ g, row = some g → S g) : Frm S w w' :=
  ⟨h.os, h.tape, h.output, h.size, fun k hk hn => h.block k hk (fun e => hn (hr k e.symm))⟩
theorem Frm.set {S : Nat → Prop} {w : World} {g i : Nat} (hS : S g) (v : Value) : Frm S w (w.setCell ⟨g, i, none⟩ v) := by
  have h : Below g w (w.setCell ⟨g, i, none⟩ v) := (Below.refl g w).setCell (Nat.le_refl _) v
  exact ⟨h.os, h.tape, h.output, h.size, fun k _ hn => Below.heap_setCell _ _ _ _ (fun e => hn (by rw [e]; exact hS))⟩
theorem Frm.trans {S S' : Nat → Prop} {a b c : World} (h : Frm S a b) (k : Frm S' b c) (hs : ∀ x, x < a.heap.size → S' x → S x) : Frm S a c :=
  ⟨k.os.trans h.os, k.tape.trans h.tape, k.output.trans h.output, Nat.le_trans h.size k.size, fun x hx hn => (k.block x (Nat.lt_of_lt_of_le hx h.size) (fun e => hn (hs x hx e))).trans (h.block x hx hn)⟩

theorem Frm.mono {S S' : Nat → Prop} {w w' : World} (h : Frm S w w') (hs : ∀ k, S k → S' k) : Frm S' w w' := ⟨h.os, h.tape, h.output, h.size, fun k hk hn => h.block k hk (fun e => hn (hs k e))⟩
theorem Own.frm {α : Type} {enc : α → List Value} {e k B : Nat} {S : Nat → Prop} {w w' : World} {v : Value} {xs : List α} (h : Own enc e k w B v xs) (hf : Frm S w w') (hne : ∀ g, v.ownBlock = some g → ¬ S g) : Own enc e k w' B v xs := by
  refine ⟨h.1, ?_⟩
  rcases h.2 with h2 | ⟨g, cap, cur, hv, hg, hh, r⟩
  · exact .inl h2
  · exact .inr ⟨g, cap, cur, hv, hg, (hf.block g (lt_of_block hh) (hne g (by rw [hv]; rfl))).trans hh, r⟩
theorem set_flatB (xs : List Bool) (i : Nat) (z : Bool) : (xs.flatMap encB).set i (.bool z) = (xs.set i z).flatMap encB := by
  unfold encB
  rw [← List.map_eq_flatMap, ← List.map_eq_flatMap, List.map_set]

abbrev nats (l : List Nat) : List Int := l.map fun (i : Nat) => (i : Int)







end Go.Proofs.Ytfdhaigmekmboaa

/- Walks: drawn stores with prints that are asked for, with roots. -/
namespace Go.Proofs.Ytfdhaigmekmboaa
open Go.RowKit

theorem lit_rdN {w : World} {b : Nat} {x : Int} (h : w.heap[b]? = some (.cells #[.int .i64 x] 3 (0, 0))) : Ints w w.heap.size (.slice (some ⟨b, 0, none⟩) 1 1) [x] := by
  refine ⟨_, _, rfl, by simp, by simp [maxLen], by simp, fun _ => ⟨b, 0, rfl, (Array.getElem?_eq_some_iff.1 h).1, fun j u hu => ?_⟩⟩
  rw [Nat.zero_add, cell_of_row w b j _ _ (0, 0) h]
  simpa using hu

theorem Reader.drewR {w : World} {g p : Nat} {l : List Int} (h : Reader w g l p) : Reader w.drew g l p := h.on (bl_drewN (Below.refl _ _) 1)

/-- The reader; what was written is its block, the row that is appended to, and new ones; that row stands as long as nothing was appended. -/
def QJ (W0 : World) (g : Nat) (l : List Int) (pq : Nat) (ov : Value) (B : Nat) (acc : List Int) (app : Nat) (L : Nat → Bool) (n : Nat) (w : World) : Prop :=
  ∃ p', p' ≤ pq + 4 * n ∧ Reader w g l p' ∧ Frm (fun k => k = g ∨ ov.ownBlock = some k) W0 w ∧ (L app = false → OwnI w B ov acc)

section
variable {W0 w w' : World} {g pq B app i n : Nat} {l acc : List Int} {ov : Value} {L : Nat → Bool}

theorem QJ.frm (h : QJ W0 g l pq ov B acc app L n w) : Frm (fun k => k = g ∨ ov.ownBlock = some k) W0 w := by obtain ⟨_, _, _, h, _⟩ := h; exact h

theorem QJ.step (h : QJ W0 g l pq ov B acc app L n w) : QJ W0 g l pq ov B acc app (fun k => if k = i then true else L k) (n + 1) w := by
  obtain ⟨p', h1, h2, h3, h4⟩ := h
  refine ⟨p', by omega, h2, h3, fun hL => h4 ?_⟩
  simp only at hL
  split at hL
  · cases hL
  · exact hL

theorem QJ.ne_g (h : QJ W0 g l pq ov B acc app L n w) : w.heap.size ≠ g := by
  obtain ⟨p', h1, h2, h3, h4⟩ := h
  have := h2.lt
  omega

theorem QJ.ne_o (h : QJ W0 g l pq ov B acc app L n w) (ho : ∀ b, ov.ownBlock = some b → b < W0.heap.size) : ov.ownBlock ≠ some w.heap.size := by
  intro e
  have := ho _ e
  have := h.frm.size
  omega

theorem QJ.alloc (hne : i ≠ app) (h : QJ W0 g l pq ov B acc app L n w) (o : Obj) : QJ W0 g l pq ov B acc app (fun k => if k = i then true else L k) (n + 1) (w.alloc o) := by
  obtain ⟨p', h1, h2, h3, h4⟩ := h
  refine ⟨p', by omega, h2.alloc o, h3.trans (S' := fun _ => False) (Frm.of_below ((Below.refl _ _).alloc (Nat.le_refl _) _)) (fun _ _ e => e.elim), fun hL => ?_⟩
  simp only [if_neg (Ne.symm hne)] at hL
  exact (h4 hL).alloc o

theorem QJ.read {p9 : Nat} (hB : g < B) (hne : i ≠ app) (h : QJ W0 g l pq ov B acc app L n w) (r : Reader w' g l p9) (hp : p9 ≤ pq + 4 * (n + 1)) (gr : w.grownBy w' (some g)) : QJ W0 g l pq ov B acc app (fun k => if k = i then true else L k) (n + 1) w' := by
  obtain ⟨p', h1, h2, h3, h4⟩ := h
  refine ⟨p9, hp, r, h3.trans (S' := fun k => k = g) (Frm.of_grown gr (fun b hb => (Option.some.inj hb).symm)) (fun x hx e => .inl e), fun hL => ?_⟩
  simp only [if_neg (Ne.symm hne)] at hL
  exact (h4 hL).far gr (fun b hb => by simp at hb; omega)

theorem QJ.appd (h : QJ W0 g l pq ov B acc app L n w) (gr : w.grownBy w' ov.ownBlock) (hb : ∀ b, ov.ownBlock = some b → g < b) : QJ W0 g l pq ov B acc app (fun k => if k = app then true else L k) (n + 1) w' := by
  obtain ⟨p', h1, h2, h3, h4⟩ := h
  refine ⟨p', by omega, h2.kept gr hb, h3.trans (S' := fun k => ov.ownBlock = some k) (Frm.of_grown gr (fun b hb => hb)) (fun x hx e => .inr e), fun hL => ?_⟩
  simp at hL
end

def isPcP (gs n : Nat) : Value → World → Prop := fun v _ => ∃ j : Nat, j < n ∧ v = .pointer (some ⟨gs, j * 2, none⟩)
def isN : Value → World → Prop := fun v _ => ∃ x : Int, v = .int .i64 x
def isIRow (g : Nat) (ov : Value) (K : Nat) : Value → World → Prop := fun v w => ∃ (b : Nat) (cs : Array Value), v = .slice (some ⟨b, 0, none⟩) K K ∧ b ≠ g ∧ ov.ownBlock ≠ some b ∧ w.heap[b]? = some (.cells cs 3 (0, 0)) ∧ cs.size = K ∧ (cs.toList.all fun v => match v with | .int .i64 _ => true | _ => false) = true
def isICell (g : Nat) (ov : Value) : Value → World → Prop := fun v w => ∃ (b i : Nat) (y : Int), v = .pointer (some ⟨b, i, none⟩) ∧ b ≠ g ∧ ov.ownBlock ≠ some b ∧ w.cell? ⟨b, i, none⟩ = some (.int .i64 y)
def isLitI (g : Nat) (ov : Value) : Value → World → Prop := fun v w => ∃ (b : Nat) (y : Int), v = .slice (some ⟨b, 0, none⟩) 1 1 ∧ b ≠ g ∧ ov.ownBlock ≠ some b ∧ w.heap[b]? = some (.cells #[.int .i64 y] 3 (0, 0))
def isMore (B : Nat) (acc : List Int) : Value → World → Prop := fun v w => ∃ y : Int, OwnI w B v (acc ++ [y])
theorem irow_cell {w : World} {b K j : Nat} {cs : Array Value} (h : w.heap[b]? = some (.cells cs 3 (0, 0))) (hK : cs.size = K) (ha : (cs.toList.all fun v => match v with | .int .i64 _ => true | _ => false) = true) (hj : j < K) : ∃ y : Int, w.cell? ⟨b, j, none⟩ = some (.int .i64 y) := by
  have hj' : j < cs.size := by omega
  have h1 := List.all_eq_true.1 ha cs[j] (by simp)
  cases hv : cs[j] with
  | int k x =>
    rw [hv] at h1
    cases k <;> simp at h1
    exact ⟨x, by simp [World.cell?, h, hj', hv]⟩
  | _ => rw [hv] at h1; cases h1

section
variable {w w' : World} {g j J B K : Nat} {ov v : Value} {acc : List Int}
theorem frm_block {b : Nat} {o : Obj} (hS : Frm (fun k => k = g ∨ (j = J ∧ ov.ownBlock = some k)) w w') (h1 : b ≠ g) (h2 : ov.ownBlock ≠ some b) (hb : w.heap[b]? = some o) : w'.heap[b]? = some o :=
  (hS.block b (Array.getElem?_eq_some_iff.1 hb).1 (fun h => h.elim h1 (fun h => h2 h.2))).trans hb
theorem isIRow_frm (hS : Frm (fun k => k = g ∨ (j = J ∧ ov.ownBlock = some k)) w w') (h : isIRow g ov K v w) : isIRow g ov K v w' := by
  obtain ⟨b, cs, h1, h2, h3, h4, h5⟩ := h
  exact ⟨b, cs, h1, h2, h3, frm_block hS h2 h3 h4, h5⟩
theorem isLitI_frm (hS : Frm (fun k => k = g ∨ (j = J ∧ ov.ownBlock = some k)) w w') (h : isLitI g ov v w) : isLitI g ov v w' := by
  obtain ⟨b, y, h1, h2, h3, h4⟩ := h
  exact ⟨b, y, h1, h2, h3, frm_block hS h2 h3 h4⟩
theorem isICell_frm (hS : Frm (fun k => k = g ∨ (j = J ∧ ov.ownBlock = some k)) w w') (h : isICell g ov v w) : isICell g ov v w' := by
  obtain ⟨b, i, y, h1, h2, h3, h4⟩ := h
  refine ⟨b, i, y, h1, h2, h3, ?_⟩
  have hb := World.block_lt_of_cell? w _ h4
  rw [← h4]
  exact World.cell?_of_block (hS.block b hb (fun h => h.elim h2 (fun h => h3 h.2)))
theorem isMore_frm (hgB : g < B) (hne : j ≠ J) (hS : Frm (fun k => k = g ∨ (j = J ∧ ov.ownBlock = some k)) w w') (h : isMore B acc v w) : isMore B acc v w' := by
  obtain ⟨y, ho⟩ := h
  exact ⟨y, ho.frm hS (fun b hb e => by
    have h2 := (ho.lt b hb).1
    rcases e with rfl | e
    · omega
    · exact hne e.1)⟩
end

theorem gb_frm {w1 wr w' : World} {g0 : Nat} {T : Option Nat} (h : w1.grownBy wr (some g0)) (hf : Frm (fun k => k = g0 ∨ T = some k) wr w') (hr : ∀ b, T = some b → w1.heap.size ≤ b) : w1.grownBy w' (some g0) :=
  ⟨hf.os.trans h.os, hf.tape.trans h.tape, hf.output.trans h.output, Nat.le_trans h.size hf.size, fun k hk hne => (hf.block k (Nat.lt_of_lt_of_le hk h.size) (fun e => by
    rcases e with rfl | e
    · exact hne rfl
    · have := hr k e; omega)).trans (h.block k hk hne)⟩

/-- A drawn store with numbers. -/
def AskedD (w : World) (g : Nat) (l : List Int) (m : Nat) (e : Ending) (w' : World) : Prop :=
  ∃ (v u : Value) (xs : List Pc) (ns : List Int) (p' : Nat), e = .returned (.tuple #[v, u]) ∧ OwnP w' w.heap.size v xs ∧ Drawn xs ∧ OwnI w' w.heap.size u ns ∧ ns.length ≤ m ∧ (∀ a b, v.ownBlock = some a → u.ownBlock = some b → a ≠ b) ∧ p' ≤ 1000 ∧ Reader w' g l p' ∧ w.grownBy w' (some g)


set_option maxHeartbeats 2000000 in
set_option maxRecDepth 100000 in
theorem spec_l20Asked_c (g : Nat) (l : List Int) (nn : Int) (w : World) (h : Reader w g l 0) (hn0 : 0 ≤ nn) (hn9 : nn ≤ 1000000) :
    Calls Try.prog 23 #[.pointer (some ⟨g, 0, none⟩), .int .i64 nn] w (AskedD w g l 6) := by
  have hgl : g < w.heap.size := h.lt
  go_enter Try.func23, Try.ntmps23
  go_wp2_with fail
  refine (spec_l20Store_c g 0 l nn w h (by omega) hn0 hn9).mono ?_
  rintro e w1 ⟨v, xs, root, p1, rfl, o1, _, hd, hp1, r1, g1⟩
  obtain ⟨n, hn⟩ : ∃ n, xs.length = n := ⟨_, rfl⟩
  have HN := hid hn
  have hnp : 0 < n := by
    rw [← hn]
    have h0 := hd.1
    cases xs with
    | nil => exact absurd rfl h0
    | cons x r => simp
  have hn41 : n ≤ 41 := by rw [← hn]; exact hd.2.1
  obtain ⟨gs, c, rfl, hgs0, hgs, hnc⟩ := own_pc_slice o1 hn hnp
  have O1 := hid o1
  have HD := hid hd
  have R1 := hid r1
  have G1 := hid g1
  have s1 := g1.size
  obtain ⟨B, hB⟩ : ∃ B, w1.heap.size = B := ⟨_, rfl⟩
  have HBB := hid hB
  have hown0 : Hid (OwnI (w1.alloc (.cells #[] 3)) B (.slice (some ⟨w1.heap.size, 0, none⟩) 0 0) []) := hid (Own.made _ (by omega))
  clear o1 hd r1 g1 h hn hB
  go_wp2_with fail
  refine (spec_pick_c g p1 l 6 _ (R1.out.alloc _) (by omega)).mono ?_
  rintro e w2 ⟨x, rfl, x0, x3, _, r2, g2⟩
  have x3' := x3 (by omega)
  obtain ⟨m, rfl⟩ : ∃ m : Nat, x = m := ⟨x.toNat, by omega⟩
  have R2 := hid r2
  have G2 := hid (G1.out.trans (gb_unalloc g2))
  have O2 := hid ((O1.out.alloc _).far g2 (fun b hb => by simp at hb; omega))
  have A2 := hid (hown0.out.far g2 (fun b hb => by simp at hb; have := HBB.out; omega))
  have s2 := g2.size
  clear r2 g2 x3 O1 hown0 R1 G1
  go_wp2
  go_loopw [8, 9] (fun uv kv wr => ∃ (ov : Value) (q p' : Nat) (ns : List Int), ov = uv ∧ B ≤ wr.heap.size ∧ q ≤ m ∧ kv = .int .i64 q ∧ Hid (OwnI wr B uv ns) ∧ ns.length + q = m ∧ Hid (OwnP wr w.heap.size (.slice (some ⟨gs, 0, none⟩) n c) xs) ∧ p' + 72 * q ≤ p1 + 1 + 72 * m ∧ Hid (Reader wr g l p') ∧ Hid (w.grownBy wr (some g))) (fun _ k _ => (intOf k).toNat)
  case atStart => exact ⟨_, m, p1 + 1, [], rfl, by simp at s2; have := HBB.out; omega, Nat.le_refl _, rfl, A2, by simp, O2, by omega, R2, G2⟩
  case round =>
    obtain ⟨ov, q, pq, acc, rfl, hbw, hq, rfl, A, hal, O, hp', R, G⟩ := hrel
    clear A2 O2 R2 G2
    by_cases hq0 : 0 < q
    · have hq0' : (0 : Int) < q := by omega
      go_wp2
      refine drew_out wr ⟨0, rfl⟩ ?_
      rintro W0 ⟨z00, hW0⟩
      have hw05 : Below wr.heap.size wr W0 := by rw [hW0]; exact bl_drewN (Below.refl _ _) z00
      have HRW := hid (R.out.on hw05)
      have HOW := hid (A.out.on hw05)
      have HAC := hid (show acc.length ≤ 100 by omega)
      have hgW := HRW.out.lt
      have hBW : B ≤ W0.heap.size := by have := hw05.size; omega
      have hgB : g < B := by have := HBB.out; omega
      have hgsB : gs < B := by have := HBB.out; omega
      have HOV := hid (show ∀ b, ov.ownBlock = some b → b < W0.heap.size from fun b hb => (HOW.out.lt b hb).2)
      have HSC := hid (show ∀ wk, Frm (fun k => k = g ∨ ov.ownBlock = some k) W0 wk → ∀ j, j < n → ∃ y : Int, wk.cell? ⟨gs, j * 2, none⟩ = some (.int .i64 y) from fun wk hf j hj => by
        obtain ⟨a', c', hv', _, _, h3'⟩ := ((Rd.of_own O.out).on hw05).pcs HN.out
        simp only [Value.slice.injEq] at hv'
        obtain ⟨rfl, _, rfl⟩ := hv'
        obtain ⟨b, o, r, t, hbo, hbl, hx, k0, _⟩ := h3' j hj
        simp only [Option.some.injEq, Addr.mk.injEq, and_true] at hbo
        obtain ⟨rfl, rfl⟩ := hbo
        rw [Nat.zero_add] at k0
        refine ⟨r, ?_⟩
        rw [← k0]
        refine World.cell?_of_block (hf.block gs hbl (fun e => ?_))
        rcases e with rfl | e
        · omega
        · have := (HOW.out.lt _ e).1; omega)
      have OO := hid (O.out.on hw05)
      have GG := hid (G.out.trans (gb_of_below hw05 (some g)))
      have hpq9 : pq ≤ 1000 := by omega
      clear hW0 A O R G hw05
      refine wp_region_inv3f rfl (by kernel_rfl) (by kernel_rfl) (by kernel_rfl) (by kernel_rfl) (by simp) (QJ W0 g l pq ov B acc 16) (fun j w' w'' => Frm (fun k => k = g ∨ (j = 16 ∧ ov.ownBlock = some k)) w' w'') (fact [isV (ov), isV (.int .i64 root), isV (.slice (some ⟨gs, 0, none⟩) n c), isV (.pointer (some ⟨g, 0, none⟩)), isV (.slice (some ⟨gs, 0, none⟩) n c), isV (.int .i64 n), isI 0 (n - 1), isPcP gs n, isPcP gs n, isN, isIRow g ov 4, isV (.pointer (some ⟨g, 0, none⟩)), isI 0 (4 - 1), isICell g ov, isN, isLitI g ov, isMore B acc, isMore B acc]) (fun _ _ => false) ⟨pq, by omega, HRW.out.drewR, Frm.of_below (bl_drewN (Below.refl _ _) 1), fun _ => HOW.out.drewN 1⟩ ?hF ?grd ?oo ?cg ?fin
      case hF =>
        intro j i v w' w'' hS hc hne hwt hdp hf
        have hi : i < 18 ∨ 18 ≤ i := by omega
        rcases hi with hi | hi
        · obtain rfl | rfl | rfl | rfl | rfl | rfl | rfl | rfl | rfl | rfl | rfl | rfl | rfl | rfl | rfl | rfl | rfl | rfl : i = 0 ∨ i = 1 ∨ i = 2 ∨ i = 3 ∨ i = 4 ∨ i = 5 ∨ i = 6 ∨ i = 7 ∨ i = 8 ∨ i = 9 ∨ i = 10 ∨ i = 11 ∨ i = 12 ∨ i = 13 ∨ i = 14 ∨ i = 15 ∨ i = 16 ∨ i = 17 := by omega
          · exact hf
          · exact hf
          · exact hf
          · exact hf
          · exact hf
          · exact hf
          · exact hf
          · exact hf
          · exact hf
          · exact hf
          · exact isIRow_frm hS hf
          · exact hf
          · exact hf
          · exact isICell_frm hS hf
          · exact hf
          · exact isLitI_frm hS hf
          · exact isMore_frm hgB (fun e => hne e.symm) hS hf
          · exact isMore_frm hgB (by rintro rfl; exact absurd (hwt.symm.trans (c := true) (by kernel_rfl)) (by decide)) hS hf
        · unfold fact at *; rw [List.getD_eq_getElem?_getD, List.getElem?_eq_none (by simpa using hi)]; trivial
      case grd =>
        intro i oo d bb hi hg v w' hf
        obtain ⟨hlt1, rfl⟩ := Array.getElem?_eq_some_iff.1 hi
        have hlt' : i < 18 := hlt1
        clear hi
        obtain rfl | rfl | rfl | rfl | rfl | rfl | rfl | rfl | rfl | rfl | rfl | rfl | rfl | rfl | rfl | rfl | rfl | rfl : i = 0 ∨ i = 1 ∨ i = 2 ∨ i = 3 ∨ i = 4 ∨ i = 5 ∨ i = 6 ∨ i = 7 ∨ i = 8 ∨ i = 9 ∨ i = 10 ∨ i = 11 ∨ i = 12 ∨ i = 13 ∨ i = 14 ∨ i = 15 ∨ i = 16 ∨ i = 17 := by omega
        all_goals simp at hg
      case cg =>
        intro i oo d bb hi hg j
        rfl
      case oo =>
        intro i oo hi L qn a' wk hnn hL hj hb' hd
        have hnn' : qn < 18 := hnn
        obtain ⟨hlt1, rfl⟩ := Array.getElem?_eq_some_iff.1 hi
        have hlt' : i < 18 := hlt1
        clear hi hnn
        obtain rfl | rfl | rfl | rfl | rfl | rfl | rfl | rfl | rfl | rfl | rfl | rfl | rfl | rfl | rfl | rfl | rfl | rfl : i = 0 ∨ i = 1 ∨ i = 2 ∨ i = 3 ∨ i = 4 ∨ i = 5 ∨ i = 6 ∨ i = 7 ∨ i = 8 ∨ i = 9 ∨ i = 10 ∨ i = 11 ∨ i = 12 ∨ i = 13 ∨ i = 14 ∨ i = 15 ∨ i = 16 ∨ i = 17 := by omega
        · have b8 : a'.eval (.tmp 8) = ov := hb' 8 (by kernel_rfl); have c8 := ev_get b8
          exact iv_val (v := ov) (by simp [execOp, b8]) ⟨_, rfl, QJ.step hj, Frm.refl _ _, rfl⟩
        · have b7 : a'.eval (.tmp 7) = .int .i64 root := hb' 7 (by kernel_rfl); have c7 := ev_get b7
          exact iv_val (v := .int .i64 root) (by simp [execOp, b7]) ⟨_, rfl, QJ.step hj, Frm.refl _ _, rfl⟩
        · have b6 : a'.eval (.tmp 6) = .slice (some ⟨gs, 0, none⟩) n c := hb' 6 (by kernel_rfl); have c6 := ev_get b6
          exact iv_val (v := .slice (some ⟨gs, 0, none⟩) n c) (by simp [execOp, b6]) ⟨_, rfl, QJ.step hj, Frm.refl _ _, rfl⟩
        · have b0 : a'.eval (.tmp 0) = .pointer (some ⟨g, 0, none⟩) := hb' 0 (by kernel_rfl); have c0 := ev_get b0
          exact iv_val (v := .pointer (some ⟨g, 0, none⟩)) (by simp [execOp, b0]) ⟨_, rfl, QJ.step hj, Frm.refl _ _, rfl⟩
        · have b6 : a'.eval (.tmp 6) = .slice (some ⟨gs, 0, none⟩) n c := hb' 6 (by kernel_rfl); have c6 := ev_get b6
          exact iv_val (v := .slice (some ⟨gs, 0, none⟩) n c) (by simp [execOp, b6]) ⟨_, rfl, QJ.step hj, Frm.refl _ _, rfl⟩
        · have v4 : a'.eval (.tmp 27) = .slice (some ⟨gs, 0, none⟩) n c := hd ⟨4, .data⟩ (by simp) rfl (fun j _ hc => by cases hc); have u4 := ev_get v4
          exact iv_val (v := .int .i64 n) (by simp [execOp, u4, go_sem]) ⟨_, rfl, QJ.step hj, Frm.refl _ _, rfl⟩
        · have v3 : a'.eval (.tmp 26) = .pointer (some ⟨g, 0, none⟩) := hd ⟨3, .data⟩ (by simp) rfl (fun j _ hc => by cases hc); have u3 := ev_get v3
          have v5 : a'.eval (.tmp 28) = .int .i64 n := hd ⟨5, .data⟩ (by simp) rfl (fun j _ hc => by cases hc); have u5 := ev_get v5
          obtain ⟨p', hp', hr, hfm, how⟩ := hj
          refine iv_enter (f := 33) (args := #[.pointer (some ⟨g, 0, none⟩), .int .i64 n]) (by simp [execOp, u3, u5, go_sem]) ?_
          refine (spec_pick_c g p' l n wk hr (by omega)).mono ?_
          rintro e w9 ⟨x9, rfl, x90, x91, _, r9, g9⟩
          have x92 := x91 (by omega)
          exact ⟨_, rfl, _, rfl, QJ.read hgB (by decide) ⟨p', hp', hr, hfm, how⟩ r9 (by omega) g9, Frm.of_grown g9 (fun b hb => .inl (Option.some.inj hb).symm), (show isI 0 (n - 1) _ w9 from ⟨x9, rfl, x90, by omega⟩)⟩
        · have v2 : a'.eval (.tmp 25) = .slice (some ⟨gs, 0, none⟩) n c := hd ⟨2, .data⟩ (by simp) rfl (fun j _ hc => by cases hc); have u2 := ev_get v2
          have e6 : isI 0 ((n : Int) - 1) (a'.eval (.tmp 29)) wk := hd ⟨6, .data⟩ (by simp) rfl (fun j _ hc => by cases hc)
          obtain ⟨x6, v6, x60, x61⟩ := e6
          have u6 := ev_get v6
          obtain ⟨j, rfl⟩ : ∃ j : Nat, x6 = j := ⟨x6.toNat, by omega⟩
          have hjn : (j : Int) < n := by omega
          exact iv_val (v := .pointer (some ⟨gs, j * 2, none⟩)) (by simp [execOp, u2, u6, hjn, go_sem, Result.andThen]) ⟨_, rfl, QJ.step hj, Frm.refl _ _, (show isPcP gs n _ wk from ⟨j, by omega, rfl⟩)⟩
        · have e7 : isPcP gs n (a'.eval (.tmp 30)) wk := hd ⟨7, .data⟩ (by simp) rfl (fun j _ hc => by cases hc)
          obtain ⟨j, hjn, v7⟩ := e7
          have u7 := ev_get v7
          exact iv_val (v := .pointer (some ⟨gs, j * 2, none⟩)) (by simp [execOp, u7, go_sem, Result.andThen]) ⟨_, rfl, QJ.step hj, Frm.refl _ _, (show isPcP gs n _ wk from ⟨j, hjn, rfl⟩)⟩
        · have e8 : isPcP gs n (a'.eval (.tmp 31)) wk := hd ⟨8, .data⟩ (by simp) rfl (fun j _ hc => by cases hc)
          obtain ⟨j, hjn, v8⟩ := e8
          have u8 := ev_get v8
          obtain ⟨y, hy⟩ := HSC.out wk hj.frm j hjn
          exact iv_val (v := .int .i64 y) (by simp [execOp, u8, hy, go_sem, Result.andThen]) ⟨_, rfl, QJ.step hj, Frm.refl _ _, (show isN _ wk from ⟨y, rfl⟩)⟩
        · have v1 : a'.eval (.tmp 24) = .int .i64 root := hd ⟨1, .data⟩ (by simp) rfl (fun j _ hc => by cases hc); have u1 := ev_get v1
          have e9 : isN (a'.eval (.tmp 32)) wk := hd ⟨9, .data⟩ (by simp) rfl (fun j _ hc => by cases hc)
          obtain ⟨y9, v9⟩ := e9
          have u9 := ev_get v9
          exact iv_val (v := .slice (some ⟨wk.heap.size, 0, none⟩) 4 4) (w' := wk.alloc (.cells #[.int .i64 root, .int .i64 y9, .int .i64 354, .int .i64 7] 3)) (by simp [execOp, u1, u9, go_sem, Result.andThen]) ⟨_, rfl, QJ.alloc (by decide) hj _, Frm.of_below ((Below.refl _ _).alloc (Nat.le_refl _) _), (show isIRow g ov 4 _ _ from ⟨wk.heap.size, _, rfl, hj.ne_g, hj.ne_o HOV.out, heap_alloc_new _ _, rfl, rfl⟩)⟩
        · have b0 : a'.eval (.tmp 0) = .pointer (some ⟨g, 0, none⟩) := hb' 0 (by kernel_rfl); have c0 := ev_get b0
          exact iv_val (v := .pointer (some ⟨g, 0, none⟩)) (by simp [execOp, b0]) ⟨_, rfl, QJ.step hj, Frm.refl _ _, rfl⟩
        · have v11 : a'.eval (.tmp 34) = .pointer (some ⟨g, 0, none⟩) := hd ⟨11, .data⟩ (by simp) rfl (fun j _ hc => by cases hc); have u11 := ev_get v11
          obtain ⟨p', hp', hr, hfm, how⟩ := hj
          refine iv_enter (f := 33) (args := #[.pointer (some ⟨g, 0, none⟩), .int .i64 4]) (by simp [execOp, u11, go_sem]) ?_
          refine (spec_pick_c g p' l 4 wk hr (by omega)).mono ?_
          rintro e w9 ⟨x9, rfl, x90, x91, _, r9, g9⟩
          have x92 := x91 (by omega)
          exact ⟨_, rfl, _, rfl, QJ.read hgB (by decide) ⟨p', hp', hr, hfm, how⟩ r9 (by omega) g9, Frm.of_grown g9 (fun b hb => .inl (Option.some.inj hb).symm), (show isI 0 (4 - 1) _ w9 from ⟨x9, rfl, x90, by omega⟩)⟩
        · have e12 : isIRow g ov 4 (a'.eval (.tmp 33)) wk := hd ⟨10, .data⟩ (by simp) rfl (fun j _ hc => by cases hc)
          obtain ⟨b12, cs12, v12, h12a, h12b, h12c, h12d, h12e⟩ := e12
          have u12 := ev_get v12
          have e13 : isI 0 (4 - 1) (a'.eval (.tmp 35)) wk := hd ⟨12, .data⟩ (by simp) rfl (fun j _ hc => by cases hc)
          obtain ⟨x6, v13, x60, x61⟩ := e13
          have u13 := ev_get v13
          obtain ⟨j, rfl⟩ : ∃ j : Nat, x6 = j := ⟨x6.toNat, by omega⟩
          have hjn : (j : Int) < 4 := by omega
          obtain ⟨y, hy⟩ := irow_cell h12c h12d h12e (j := j) (by omega)
          exact iv_val (v := .pointer (some ⟨b12, j, none⟩)) (by simp [execOp, u12, u13, hjn, go_sem, Result.andThen]) ⟨_, rfl, QJ.step hj, Frm.refl _ _, (show isICell g ov _ wk from ⟨b12, j, y, rfl, h12a, h12b, hy⟩)⟩
        · have e14 : isICell g ov (a'.eval (.tmp 36)) wk := hd ⟨13, .data⟩ (by simp) rfl (fun j _ hc => by cases hc)
          obtain ⟨b14, i14, y14, v14, _, _, h14⟩ := e14
          have u14 := ev_get v14
          exact iv_val (v := .int .i64 y14) (by simp [execOp, u14, h14, go_sem, Result.andThen]) ⟨_, rfl, QJ.step hj, Frm.refl _ _, (show isN _ wk from ⟨y14, rfl⟩)⟩
        · have e15 : isN (a'.eval (.tmp 37)) wk := hd ⟨14, .data⟩ (by simp) rfl (fun j _ hc => by cases hc)
          obtain ⟨y15, v15⟩ := e15
          have u15 := ev_get v15
          exact iv_val (v := .slice (some ⟨wk.heap.size, 0, none⟩) 1 1) (w' := wk.alloc (.cells #[.int .i64 y15] 3)) (by simp [execOp, u15, go_sem, Result.andThen]) ⟨_, rfl, QJ.alloc (by decide) hj _, Frm.of_below ((Below.refl _ _).alloc (Nat.le_refl _) _), (show isLitI g ov _ _ from ⟨wk.heap.size, y15, rfl, hj.ne_g, hj.ne_o HOV.out, heap_alloc_new _ _⟩)⟩
        · have v0 : a'.eval (.tmp 23) = ov := hd ⟨0, .data⟩ (by simp) rfl (fun j _ hc => by cases hc); have u0 := ev_get v0
          have e16 : isLitI g ov (a'.eval (.tmp 38)) wk := hd ⟨15, .data⟩ (by simp) rfl (fun j _ hc => by cases hc)
          obtain ⟨b16, y16, v16, _, _, h16⟩ := e16
          obtain ⟨p', hp', hr, hfm, how⟩ := hj
          have how1 := how hL
          obtain ⟨i0, hi0, hz0, hz1, hz2⟩ := info_parts info_int
          refine wp_cat (enc := encI) wk (.tmp 23) (.tmp 38) 24 rfl B 3 i0 _ 1 8 Try.underlying24 hi0 hz0 hz1 hz2 rfl (by decide) ov (.slice (some ⟨b16, 0, none⟩) 1 1) acc [y16] v0 v16 how1 _ (lit_rdN h16) (by simp [Value.oneCell']) (by have := HAC.out; simp <;> omega) (by decide) (Nat.le_trans hBW hfm.size) ?_
          intro v' w' ho hg hg'
          exact ⟨_, rfl, QJ.appd ⟨p', hp', hr, hfm, how⟩ hg (fun b hb => by have := (Own.lt how1 b hb).1; omega), Frm.of_grown hg (fun b hb => .inr ⟨rfl, hb⟩), (show isMore B acc _ _ from ⟨y16, ho⟩)⟩
        · have e17 : isMore B acc (a'.eval (.tmp 39)) wk := hd ⟨16, .data⟩ (by simp) rfl (fun j _ hc => by cases hc)
          exact iv_val (v := a'.eval (.tmp 39)) (by simp [execOp]) ⟨_, rfl, QJ.step hj, Frm.refl _ _, e17⟩
      case fin =>
        intro tm w9 hLL hF
        obtain ⟨LL, _, p9, hp9, r9, fm9, _⟩ := hLL
        have o15 : isMore B acc (tm.getD 8 undef) w9 := hF 17 _ rfl (fun j => rfl)
        clear hF
        simp only [refillL, List.setIfInBounds_toArray, List.set_cons_succ, List.set_cons_zero]
        obtain ⟨sv, hsv⟩ : ∃ sv, tm.getD 8 undef = sv := ⟨_, rfl⟩
        rw [hsv] at o15 ⊢
        clear hsv
        obtain ⟨y15, o15⟩ := o15
        have O15 := hid o15
        have R15 := hid r9
        have F15 := hid fm9
        have hp9' : p9 ≤ pq + 72 := hp9
        have hB9 : B ≤ w9.heap.size := Nat.le_trans hBW fm9.size
        clear o15 r9 fm9 hp9
        have OP := hid (OO.out.frm F15.out (fun b hb e => by
          simp [Value.ownBlock] at hb
          rcases e with rfl | e
          · omega
          · have := (HOW.out.lt b e).1; omega))
        have GP := hid (show w.grownBy w9 (some g) from gb_frm GG.out F15.out (fun b hb => by have := (HOW.out.lt b hb).1; have := HBB.out; omega))
        clear OO GG HRW HOW HOV HSC F15
        go_wp2
        go_roundw
        case rel => exact ⟨_, q - 1, p9, _, rfl, hB9, by omega, by go_num, O15, by simp; omega, OP, by omega, R15, GP⟩
        case measure => simp [intOf]; omega
    · go_wp2
      go_ret2
      have hbs := G.out.size
      exact ⟨_, _, xs, acc, pq, rfl, O.out, HD.out, A.out.less (by have := HBB.out; omega), by omega, fun a b ha hb => by
        simp [Value.ownBlock] at ha
        have := (A.out.lt b hb).1
        have := HBB.out
        omega, by omega, R.out, G.out⟩

end Go.Proofs.Ytfdhaigmekmboaa

/- Walks: the laws' comparing of equal rows; the text with a print. -/
namespace Go.Proofs.Ytfdhaigmekmboaa
open Go.RowKit

set_option maxHeartbeats 400000 in
theorem laws_sameInts_s (v u : Value) (xs : List Int) (B B' : Nat) (w : World) (h : Ints w B v xs) (h' : Ints w B' u xs) :
    Calls Try.prog 16 #[v, u] w fun e w' => e = .returned (.bool true) ∧ ∃ m, w' = w.drewN m := by
  obtain ⟨n, hn⟩ : ∃ n, xs.length = n := ⟨_, rfl⟩
  obtain ⟨a, c, rfl, h1, h2, h3⟩ := h.ints hn
  obtain ⟨a', c', rfl, h1', h2', h3'⟩ := h'.ints hn
  clear hn h h'
  go_enter Try.func16, Try.ntmps16
  go_wp2
  go_loopw [5] (fun i wr => ∃ k m : Nat, k ≤ n ∧ i = .int .i64 k ∧ wr = w.drewN m) (fun i _ => n - (intOf i).toNat)
  case atStart => exact ⟨0, 0, Nat.zero_le _, rfl, rfl⟩
  case round =>
    obtain ⟨k, m, hk, rfl, rfl⟩ := hrel
    by_cases hlt : k < n
    · obtain ⟨b, o, x, rfl, hbl, hx, k0⟩ := h3 k hlt
      obtain ⟨b', o', x', rfl, hbl', hx', k0'⟩ := h3' k hlt
      obtain rfl : x = x' := Option.some.inj (hx.out.symm.trans hx'.out)
      have hkn : (k : Int) < n := by omega
      clear h3 h3'
      go_wp2
      go_quiet (fail)
      go_wp2
      go_roundw
      case rel => exact ⟨k + 1, _, by omega, by go_num, rfl⟩
      case measure => simp [intOf]; omega
    · clear h3 h3'
      go_wp2
      go_ret
      exact ⟨rfl, _, rfl⟩

set_option maxHeartbeats 400000 in
theorem laws_sameTexts_s (v u : Value) (xs : List ByteArray) (B B' : Nat) (w : World) (h : Strs w B v xs) (h' : Strs w B' u xs) :
    Calls Try.prog 8 #[v, u] w fun e w' => e = .returned (.bool true) ∧ ∃ m, w' = w.drewN m := by
  obtain ⟨n, hn⟩ : ∃ n, xs.length = n := ⟨_, rfl⟩
  obtain ⟨a, c, rfl, h1, h2, h3⟩ := h.strs hn
  obtain ⟨a', c', rfl, h1', h2', h3'⟩ := h'.strs hn
  clear hn h h'
  go_enter Try.func8, Try.ntmps8
  go_wp2
  go_loopw [5] (fun i wr => ∃ k m : Nat, k ≤ n ∧ i = .int .i64 k ∧ wr = w.drewN m) (fun i _ => n - (intOf i).toNat)
  case atStart => exact ⟨0, 0, Nat.zero_le _, rfl, rfl⟩
  case round =>
    obtain ⟨k, m, hk, rfl, rfl⟩ := hrel
    by_cases hlt : k < n
    · obtain ⟨b, o, x, rfl, hbl, hx, k0⟩ := h3 k hlt
      obtain ⟨b', o', x', rfl, hbl', hx', k0'⟩ := h3' k hlt
      obtain rfl : x = x' := Option.some.inj (hx.out.symm.trans hx'.out)
      have hkn : (k : Int) < n := by omega
      clear h3 h3'
      go_wp2
      go_quiet (fail)
      go_wp2
      go_roundw
      case rel => exact ⟨k + 1, _, by omega, by go_num, rfl⟩
      case measure => simp [intOf]; omega
    · clear h3 h3'
      go_wp2
      go_ret
      exact ⟨rfl, _, rfl⟩

set_option maxHeartbeats 400000 in
theorem laws_samePieces_s (v u : Value) (xs : List Pc) (B B' : Nat) (w : World) (h : Pcs w B v xs) (h' : Pcs w B' u xs) :
    Calls Try.prog 22 #[v, u] w fun e w' => e = .returned (.bool true) ∧ ∃ m, w' = w.drewN m := by
  obtain ⟨n, hn⟩ : ∃ n, xs.length = n := ⟨_, rfl⟩
  obtain ⟨a, c, rfl, h1, h2, h3⟩ := h.pcs hn
  obtain ⟨a', c', rfl, h1', h2', h3'⟩ := h'.pcs hn
  clear hn h h'
  go_enter Try.func22, Try.ntmps22
  go_wp2
  go_loopw [5] (fun i wr => ∃ k m : Nat, k ≤ n ∧ i = .int .i64 k ∧ wr = w.drewN m) (fun i _ => n - (intOf i).toNat)
  case atStart => exact ⟨0, 0, Nat.zero_le _, rfl, rfl⟩
  case round =>
    obtain ⟨k, m, hk, rfl, rfl⟩ := hrel
    by_cases hlt : k < n
    · obtain ⟨b, o, r, t, rfl, hbl, hx, k0, k1⟩ := h3 k hlt
      obtain ⟨b', o', r', t', rfl, hbl', hx', k0', k1'⟩ := h3' k hlt
      obtain ⟨rfl, rfl⟩ : r = r' ∧ t = t' := by have := Option.some.inj (hx.out.symm.trans hx'.out); simpa using this
      have hkn : (k : Int) < n := by omega
      clear h3 h3'
      go_wp2
      go_quiet (fail)
      go_wp2
      go_roundw
      case rel => exact ⟨k + 1, _, by omega, by go_num, rfl⟩
      case measure => simp [intOf]; omega
    · clear h3 h3'
      go_wp2
      go_ret
      exact ⟨rfl, _, rfl⟩

set_option maxHeartbeats 400000 in
theorem laws_samePieces_l (v u : Value) (xs ys : List Pc) (B B' : Nat) (w : World) (h : Pcs w B v xs) (h' : Pcs w B' u ys) (hne : xs.length ≠ ys.length) :
    Calls Try.prog 22 #[v, u] w fun e w' => e = .returned (.bool false) ∧ w = w' := by
  obtain ⟨n, hn⟩ : ∃ n, xs.length = n := ⟨_, rfl⟩
  obtain ⟨m, hm⟩ : ∃ m, ys.length = m := ⟨_, rfl⟩
  obtain ⟨a, c, rfl, h1, h2, _⟩ := h.pcs hn
  obtain ⟨a', c', rfl, h1', h2', _⟩ := h'.pcs hm
  have hd : ((n : Int) == m) = false := by simp; omega
  clear hn hm h h' hne
  go_enter Try.func22, Try.ntmps22
  go_wp2
  go_ret
  exact ⟨rfl, rfl⟩

/-- The text with a print in a store that is valid. -/
def getText (l : List Pc) (n : Int) : ByteArray × Bool := if storeOk l then ((getP l n).getD ByteArray.empty, hasP l n) else (ByteArray.empty, false)
theorem getText_on {l : List Pc} (h : storeOk l = true) (n : Int) : getText l n = ((getP l n).getD ByteArray.empty, hasP l n) := by unfold getText; rw [h]; rfl
theorem getText_off {l : List Pc} (h : storeOk l = false) (n : Int) : getText l n = (ByteArray.empty, false) := by unfold getText; rw [h]; rfl

set_option maxHeartbeats 400000 in
theorem impl_GetText_c (v : Value) (xs : List Pc) (y : Int) (w : World) (h : Pcs w w.heap.size v xs) :
    Calls Try.prog 18 #[v, .int .i64 y] w fun e w' => e = .returned (.tuple #[.string (getText xs y).1, .bool (getText xs y).2]) ∧ Below w.heap.size w w' := by
  have HH := hid h
  clear h
  cases hok : storeOk xs
  · have HO := hid (getText_off hok y)
    have HK := hid hok
    clear hok
    rw [HO.out]
    go_enter Try.func18, Try.ntmps18
    go_wp2_with fail
    refine (impl_StoreValid_c _ xs _ HH.out).mono ?_
    rw [HK.out]
    rintro e w1 ⟨rfl, b1⟩
    go_wp2
    go_ret2
    exact ⟨rfl, b1⟩
  · have HO := hid (getText_on hok y)
    have HK := hid hok
    clear hok
    rw [HO.out]
    go_enter Try.func18, Try.ntmps18
    go_wp2_with fail
    refine (impl_StoreValid_c _ xs _ HH.out).mono ?_
    rw [HK.out]
    rintro e w1 ⟨rfl, b1⟩
    go_wp2_with fail
    refine (impl_textOf_c _ xs y _ (HH.out.on b1) HK.out).mono ?_
    rintro e w2 ⟨rfl, b2⟩
    have d2 := bl_then b1 b2
    clear b1 b2
    go_wp2
    go_ret2
    exact ⟨rfl, d2⟩

end Go.Proofs.Ytfdhaigmekmboaa

/- Walks: copies of rows of pieces; a text that is put. -/
namespace Go.Proofs.Ytfdhaigmekmboaa
open Go.RowKit

theorem str_ne {u t : ByteArray} (h : u ≠ t) : (u.toList == t.toList) = false := by
  rw [beq_eq_false_iff_ne]
  intro e
  rw [ByteArray.toList_eq, ByteArray.toList_eq] at e
  exact h (Go.WideShapes.bytes_inj e)

set_option maxHeartbeats 400000 in
theorem cloneP_c (v : Value) (xs : List Pc) (w : World) (h : Pcs w w.heap.size v xs) (hl : xs.length ≤ 1000000) :
    Calls Try.prog 36 #[v] w fun e w' => ∃ v', e = .returned v' ∧ OwnP w' w.heap.size v' xs ∧ Below w.heap.size w w' := by
  obtain ⟨n, hn⟩ : ∃ n, xs.length = n := ⟨_, rfl⟩
  obtain ⟨a, c, rfl, _, _, h3⟩ := h.pcs hn
  have h0 := h
  obtain ⟨i0, hi0, hz0, hz1, hz2⟩ := info_parts info_pcO
  have qn : ∀ (w : World) (a : Option Addr) (n c n' c' : Nat), (binOp .eql 23 (.slice a n c) (.slice none n' c')).run Try.prog w = .ok (.bool a.isNone) w := fun w a n c n' c' => Lib.run_eql_slice_nil w _ _ a n c n' c' Try.underlying23
  cases a with
  | none =>
    have hn0 : n = 0 := by
      rcases Nat.eq_zero_or_pos n with h | h
      · exact h
      · obtain ⟨b, o, r, t, hb, _⟩ := h3 0 h; cases hb
    have hx : xs = [] := List.eq_nil_of_length_eq_zero (by omega)
    have HX := hid hx
    clear hx hn h3 h0 hl
    go_enter Try.func36, Try.ntmps36
    go_wp2_with (simp only [qn])
    go_ret
    exact ⟨_, rfl, by rw [HX.out]; exact Own.nil_, Below.refl _ _⟩
  | some ad =>
    have HN := hid hn
    have HL := hid hl
    have hal : Below w.heap.size w (w.alloc (.cells #[] 45)) := (Below.refl _ _).alloc (Nat.le_refl _) _
    clear hn h3 hl
    go_enter Try.func36, Try.ntmps36
    go_wp2_with (first | simp only [qn] | (at_builtin; refine wpList_cat (enc := encP) (w0 := w) rfl _ _ 23 rfl w.heap.size w.heap.size 45 i0 _ 2 24 Try.underlying23 hi0 hz0 hz1 hz2 rfl (by decide) _ _ [] xs (Own.made w (Nat.le_refl _)) _ (h0.below hal (Nat.le_refl _)) hal (by simp) (Nat.le_refl _) rfl rfl encP_one (by have := HL.out; simp; omega) (by decide) ?_; intro v' w' hown' hb' hB' hg'))
    go_ret
    exact ⟨_, rfl, hown', hb'⟩

set_option maxHeartbeats 2000000 in
set_option maxRecDepth 100000 in
theorem impl_PutText_c (v : Value) (xs : List Pc) (t : ByteArray) (w : World) (h : Pcs w w.heap.size v xs) :
    Calls Try.prog 37 #[v, .string t] w fun e w' => ∃ v', e = .returned (.tuple #[v', .int .i64 (putS xs t).2.1, .bool (putS xs t).2.2]) ∧ OwnP w' w.heap.size v' (putS xs t).1 ∧ Below w.heap.size w w' := by
  obtain ⟨n, hn⟩ : ∃ n, xs.length = n := ⟨_, rfl⟩
  obtain ⟨a, c, rfl, _, _, h3⟩ := h.pcs hn
  have HP : Hid (∀ wx, Below w.heap.size w wx → Pcs wx wx.heap.size (.slice a n c) xs) := fun wx hx' => h.on hx'
  have HN := hid hn
  cases hok : storeOk xs
  · have HO := hid (put_off (t := t) hok)
    clear h3 hn
    rw [HO.out]
    go_enter Try.func37, Try.ntmps37
    go_wp2_with fail
    refine (impl_StoreValid_c _ xs _ h).mono ?_
    rw [hok]
    rintro e w1 ⟨rfl, b1⟩
    go_wp2
    go_ret3
    exact ⟨_, rfl, Own.nil_, b1⟩
  have HK := hid hok
  have h40 := (st_in hok).1
  rw [hn] at h40
  have HL := hid (show xs.length ≤ 1000000 by omega)
  cases ht : textOk (bs t)
  · have HO := hid (put_bad hok ht)
    have HT := hid ht
    clear h3 hn ht
    rw [HO.out]
    go_enter Try.func37, Try.ntmps37
    go_wp2_with fail
    refine (impl_StoreValid_c _ xs _ h).mono ?_
    rw [hok]
    rintro e w1 ⟨rfl, b1⟩
    clear hok h
    go_wp2_with fail
    refine (impl_TextValid_e _ _ HT.out).mono ?_
    rintro e w2 ⟨rfl, rfl⟩
    go_wp2_with fail
    refine (cloneP_c _ xs _ (HP.out _ b1) HL.out).mono ?_
    rintro e w3 ⟨v', rfl, o3, b3⟩
    have s1 := b1.size
    go_wp2
    go_ret3
    exact ⟨_, rfl, o3.less s1, bl_then b1 b3⟩
  have HT := hid ht
  obtain ⟨p, hp⟩ : ∃ p, printOf (bs t) = p := ⟨_, rfl⟩
  have HZ := hid hp
  obtain ⟨q, hq⟩ : ∃ q, findAt xs p = q := ⟨_, rfl⟩
  have HQ := hid hq
  cases hg : getP xs p with
  | some u =>
    obtain ⟨x, hx1, hx2, hx3⟩ := find_at (l := xs) (n := p) hok (by unfold hasP; rw [hg]; rfl)
    have hux : u = x.text := by rw [hx2] at hg; simpa using hg.symm
    rw [hq] at hx1
    have hqn : q < n := by have := (List.getElem?_eq_some_iff.1 hx1).1; omega
    obtain ⟨b, o, r, u', rfl, hbl, hx, k0, k1⟩ := h3 q hqn
    have hxr : x = ⟨r, u'⟩ := by have := hx1.symm.trans hx.out; simpa using this
    subst hxr
    simp only at hux
    subst hux
    have HG := hid (show hasP xs p = true by unfold hasP; rw [hg]; rfl)
    have hqn' : (q : Int) < n := by omega
    by_cases hut : u = t
    · subst hut
      have HO := hid (put_there hok ht (by rw [hp]; exact hg))
      clear h3 hn ht hp hq hg hx1 hx2 hx3 hok hx k0
      rw [HO.out, HZ.out]
      go_enter Try.func37, Try.ntmps37
      go_wp2_with fail
      refine (impl_StoreValid_c _ xs _ h).mono ?_
      rw [HK.out]
      rintro e w1 ⟨rfl, b1⟩
      clear h
      go_wp2_with fail
      refine (impl_TextValid_e _ _ HT.out).mono ?_
      rintro e w2 ⟨rfl, rfl⟩
      go_wp2_with fail
      refine (impl_PrintOf_e _ _ HZ.out).mono ?_
      rintro e w2 ⟨rfl, rfl⟩
      go_wp2_with fail
      refine (impl_findPiece_c _ xs p _ (HP.out _ b1) HK.out).mono ?_
      rw [HQ.out, HG.out]
      rintro e w3 ⟨rfl, b3⟩
      have d3 := bl_then b1 b3
      have s3 := d3.size
      have j1 := (d3.cell (p := ⟨b, o + q * 2 + 1, none⟩) hbl).trans k1
      go_wp2_with fail
      refine (cloneP_c _ xs _ (HP.out _ d3) HL.out).mono ?_
      rintro e w4 ⟨v', rfl, o4, b4⟩
      go_wp2
      go_ret3
      exact ⟨_, rfl, o4.less s3, bl_then d3 b4⟩
    · have HO := hid (put_other hok ht (by rw [hp]; exact hg) hut)
      have hsn := str_ne hut
      clear h3 hn ht hp hq hg hx1 hx2 hx3 hok hx k0
      rw [HO.out]
      go_enter Try.func37, Try.ntmps37
      go_wp2_with fail
      refine (impl_StoreValid_c _ xs _ h).mono ?_
      rw [HK.out]
      rintro e w1 ⟨rfl, b1⟩
      clear h
      go_wp2_with fail
      refine (impl_TextValid_e _ _ HT.out).mono ?_
      rintro e w2 ⟨rfl, rfl⟩
      go_wp2_with fail
      refine (impl_PrintOf_e _ _ HZ.out).mono ?_
      rintro e w2 ⟨rfl, rfl⟩
      go_wp2_with fail
      refine (impl_findPiece_c _ xs p _ (HP.out _ b1) HK.out).mono ?_
      rw [HQ.out, HG.out]
      rintro e w3 ⟨rfl, b3⟩
      have d3 := bl_then b1 b3
      have s3 := d3.size
      have j1 := (d3.cell (p := ⟨b, o + q * 2 + 1, none⟩) hbl).trans k1
      go_wp2_with fail
      refine (cloneP_c _ xs _ (HP.out _ d3) HL.out).mono ?_
      rintro e w4 ⟨v', rfl, o4, b4⟩
      go_wp2
      go_ret3
      exact ⟨_, rfl, o4.less s3, bl_then d3 b4⟩
  | none =>
    have HG := hid (show hasP xs p = false by unfold hasP; rw [hg]; rfl)
    by_cases hfull : n = 40
    · have HO := hid (put_full hok ht (by rw [hp]; exact hg) (by rw [hn]; exact hfull))
      have hfi : ((n : Int) == 40) = true := by rw [hfull]; rfl
      clear h3 ht hp hq hg hok hn hfull
      rw [HO.out]
      go_enter Try.func37, Try.ntmps37
      go_wp2_with fail
      refine (impl_StoreValid_c _ xs _ h).mono ?_
      rw [HK.out]
      rintro e w1 ⟨rfl, b1⟩
      clear h
      go_wp2_with fail
      refine (impl_TextValid_e _ _ HT.out).mono ?_
      rintro e w2 ⟨rfl, rfl⟩
      go_wp2_with fail
      refine (impl_PrintOf_e _ _ HZ.out).mono ?_
      rintro e w2 ⟨rfl, rfl⟩
      go_wp2_with fail
      refine (impl_findPiece_c _ xs p _ (HP.out _ b1) HK.out).mono ?_
      rw [HQ.out, HG.out]
      rintro e w3 ⟨rfl, b3⟩
      have d3 := bl_then b1 b3
      have s3 := d3.size
      go_wp2_with fail
      refine (cloneP_c _ xs _ (HP.out _ d3) HL.out).mono ?_
      rintro e w4 ⟨v', rfl, o4, b4⟩
      go_wp2
      go_ret3
      exact ⟨_, rfl, o4.less s3, bl_then d3 b4⟩
    · have HO := hid (put_new hok ht (by rw [hp]; exact hg) (by rw [hn]; exact hfull))
      have hfi : ¬ ((n : Int) = 40) := by omega
      have HI := hid (show insP xs p t = xs.take q ++ ⟨p, t⟩ :: xs.drop q by unfold insP; rw [hq])
      have hqn := findAt_le xs p
      rw [hq] at hqn
      have HQN := hid hqn
      clear h3 ht hp hq hg hok hn hqn
      rw [HO.out, HZ.out]
      go_enter Try.func37, Try.ntmps37
      go_wp2_with fail
      refine (impl_StoreValid_c _ xs _ h).mono ?_
      rw [HK.out]
      rintro e w1 ⟨rfl, b1⟩
      clear h
      go_wp2_with fail
      refine (impl_TextValid_e _ _ HT.out).mono ?_
      rintro e w2 ⟨rfl, rfl⟩
      go_wp2_with fail
      refine (impl_PrintOf_e _ _ HZ.out).mono ?_
      rintro e w2 ⟨rfl, rfl⟩
      go_wp2_with fail
      refine (impl_findPiece_c _ xs p _ (HP.out _ b1) HK.out).mono ?_
      rw [HQ.out, HG.out]
      rintro e w3 ⟨rfl, b3⟩
      have d3 := bl_then b1 b3
      have s3 := d3.size
      go_wp2_with fail
      refine (cloneP_c _ xs _ (HP.out _ d3) HL.out).mono ?_
      rintro e w4 ⟨v', rfl, o4, b4⟩
      have d4 := bl_then d3 b4
      have s4 := b4.size
      obtain ⟨W5, hW5⟩ : ∃ W5, W5 = w4.alloc (.cells #[.int .i64 p, .string t] 45) := ⟨_, rfl⟩
      have o5 : OwnP W5 w3.heap.size v' xs := by rw [hW5]; exact o4.alloc _
      have hlt4 := o4.lt
      have hv5 : W5.heap[w4.heap.size]? = some (.cells #[.int .i64 p, .string t] 45 (0, 0)) := by rw [hW5]; exact heap_alloc_new _ _
      have hb5 : Below w.heap.size w W5 := by rw [hW5]; exact d4.alloc d4.size _
      have hs5 : w3.heap.size ≤ W5.heap.size := by rw [hW5]; simp; omega
      clear b4 o4
      go_wp2_with fail
      rw [← hW5]
      refine (insP_c v' xs w3.heap.size q w4.heap.size p t W5 o5 HQN.out hs5 hv5 (fun e => by have := (hlt4 _ e).2; omega) HL.out).mono ?_
      rintro e w6 ⟨v6, rfl, o6, g6⟩
      have hb6 := hb5.grown g6 hb5.size (fun g hg => by have := (hlt4 g hg).1; omega)
      go_wp2
      go_ret3
      exact ⟨_, rfl, by rw [HI.out]; exact o6.less s3, hb6⟩

end Go.Proofs.Ytfdhaigmekmboaa
