/- Walks and plain facts, joined: FilesQ, DrawSu, WalkS, KeepF, FilesI, DrawAs, ProofP. -/
import Derived.Test.YtachfmlfmpaddaaGreatDoorMg3
import Derived.Test.YtachfmlfmpaddaaGreatDoorMg5
import Derived.Test.YtachfmlfmpaddaaGreatDoorMg7
import Derived.Test.YtachfmlfmpaddaaGreatDoorMg13
import Derived.Test.YtachfmlfmpaddaaGreatDoorMg22
import Derived.Test.YtachfmlfmpaddaaGreatDoorMg28
import Derived.Test.YtachfmlfmpaddaaGreatDoorMg29
set_option linter.unusedVariables false
set_option linter.unusedSimpArgs false

/- What is read at a path, and the files below a root, in plain Lean. -/
namespace Go.Proofs.YtachfmlfmpaddaaGreatDoor
open Go.RowKit

theorem read_way {xs : List Pc} {root : Int} {path : List UInt8} {ws : List (List UInt8)} (hs : storeOk xs = true) (hp : pathParts path = some ws) : (readAt xs root path).2 = true ↔ FileWay xs root (ws.map strL) := by
  have hw := walk_on (root := root) hs hp
  unfold readAt FileWay
  rw [hw]
  constructor
  · intro h
    split at h
    · rename_i h1
      exact ⟨(walkAt xs root (ws.map strL)).1, by rw [← h1], h⟩
    · cases h
  · rintro ⟨c, h1, h2⟩
    rw [h1, if_pos rfl]
    exact h2
/-- Each file's path has words and can be read. -/
theorem among_read {xs : List Pc} {root : Int} {p : ByteArray} (h : p ∈ allFiles xs root) : storeOk xs = true ∧ ∃ ws : List ByteArray, ws ≠ [] ∧ ws.length ≤ 3 ∧ pathParts (bs p) = some (ws.map bs) ∧ FileWay xs root ws ∧ (readAt xs root (bs p)).2 = true := by
  unfold allFiles at h
  split at h
  · rename_i hs
    obtain ⟨ws, h0, hl, hf, rfl⟩ := (below_mem 3 root [] p).1 h
    have hp := parts_join (ws := ws.map bs) (by simpa using hl) (by simpa using fileWay_words ws root hf)
    rw [List.nil_append, bs_strL]
    refine ⟨hs, ws, h0, hl, hp, hf, (read_way hs hp).2 ?_⟩
    have h4 : (ws.map bs).map strL = ws := by
      rw [List.map_map]
      conv => rhs; rw [← List.map_id ws]
      exact List.map_congr_left (fun x _ => by simp [strL_bs])
    rw [h4]; exact hf
  · simp at h
end Go.Proofs.YtachfmlfmpaddaaGreatDoor

/- Walks: drawn stores. -/
namespace Go.Proofs.YtachfmlfmpaddaaGreatDoor
open Go.RowKit

theorem setP_flat1 : ∀ (xs : List Pc) (j : Nat) (x : Pc) (r : Int), xs[j]? = some x → (xs.flatMap encP).set (j * 2) (.int .i64 r) = (xs.set j ⟨r, x.text⟩).flatMap encP
  | [], j, x, r, h => by simp at h
  | a :: t, 0, x, r, h => by simp at h; subst h; rfl
  | a :: t, j + 1, x, r, h => by
    have := setP_flat1 t j x r (by simpa using h)
    rw [List.set_cons_succ, List.flatMap_cons, List.flatMap_cons, ← this, show (j + 1) * 2 = j * 2 + 2 by omega]
    rfl
theorem setP_flat2 : ∀ (xs : List Pc) (j : Nat) (x : Pc) (u : ByteArray), xs[j]? = some x → (xs.flatMap encP).set (j * 2 + 1) (.string u) = (xs.set j ⟨x.print, u⟩).flatMap encP
  | [], j, x, u, h => by simp at h
  | a :: t, 0, x, u, h => by simp at h; subst h; rfl
  | a :: t, j + 1, x, u, h => by
    have := setP_flat2 t j x u (by simpa using h)
    rw [List.set_cons_succ, List.flatMap_cons, List.flatMap_cons, ← this, show (j + 1) * 2 + 1 = j * 2 + 1 + 2 by omega]
    rfl
theorem own_pc_set {w : World} {B g n c i : Nat} {xs ys : List Pc} {u : Value} (h : OwnP w B (.slice (some ⟨g, 0, none⟩) n c) xs) (hn : xs.length = n) (hi : i < n * 2) (hy : (xs.flatMap encP).set i u = ys.flatMap encP) (hl : ys.length = n) :
    OwnP (w.setCell ⟨g, i, none⟩ u) B (.slice (some ⟨g, 0, none⟩) n c) ys ∧ w.grownBy (w.setCell ⟨g, i, none⟩ u) (some g) ∧ (∃ x, w.cell? ⟨g, i, none⟩ = some x) ∧ w.frozen? ⟨g, i, none⟩ = false := by
  have h' : w.ownsRow B 60 2 (.slice (some ⟨g, 0, none⟩) n c) n (xs.flatMap encP) := by have := h; unfold OwnP Own at this; rwa [hn] at this
  have hs := h'.stored i u
  refine ⟨?_, hs.2, ?_, h'.frozenAt i⟩
  · have h3 := hs.1
    unfold OwnP Own
    rw [hl, ← hy]
    exact h3
  · have hx := h'.cellAt i hi
    have hlen : i < (xs.flatMap encP).length := by rw [flatP_len, hn]; exact hi
    exact ⟨_, hx.trans (List.getElem?_eq_getElem hlen)⟩
theorem own_pc_slice {w : World} {B n : Nat} {v : Value} {xs : List Pc} (h : OwnP w B v xs) (hn : xs.length = n) (h0 : 0 < n) : ∃ g cap, v = .slice (some ⟨g, 0, none⟩) n cap ∧ B ≤ g ∧ g < w.heap.size ∧ n ≤ cap := by
  rcases h.2 with ⟨_, hz⟩ | ⟨g, cap, cur, hv, hbg, hh, hnc, _⟩
  · exfalso
    cases xs with
    | nil => simp at hn; omega
    | cons a r => simp at hz
  · exact ⟨g, cap, by rw [hv, hn], hbg, (Array.getElem?_eq_some_iff.1 hh).1, by omega⟩
theorem good_nil : Good [] := ⟨rfl, fun _ => 0, fun n t h => by cases h⟩
theorem empty_good : (putS [] (strL (folderText []))).2.2 = true ∧ Good1 (putS [] (strL (folderText []))).1 := by
  have ht : textOk (bs (strL (folderText []))) = true := by rw [bs_strL]; exact folder_textOk rfl
  have hp := put_new (l := []) (t := strL (folderText [])) rfl ht rfl (by simp)
  have h2 : (putS [] (strL (folderText []))).2.2 = true := by rw [hp]
  refine ⟨h2, (goodL_put (good_nil.l (-1)) h2 (fun y hy => ?_)).good, ?_⟩
  · rw [nmd_folder rfl] at hy; simp at hy
  · rw [hp]; intro e; have := congrArg List.length e; rw [insP_len] at this; simp at this

/-- A drawn store and a root. -/
def StoreD (n : Int) (w : World) (g : Nat) (l : List Int) (p : Nat) (e : Ending) (w' : World) : Prop :=
  ∃ (v : Value) (xs : List Pc) (root : Int) (p' : Nat), e = .returned (.tuple #[v, .int .i64 root]) ∧ OwnP w' w.heap.size v xs ∧ (n ≤ 0 → Good1 xs) ∧ Drawn xs ∧ p' ≤ p + 30 ∧ Reader w' g l p' ∧ w.grownBy w' (some g)

def dsF (W0 : World) (sl : Value) (xs : List Pc) (gs : Nat) (x : Pc) : List (Value → World → Prop) :=
  [isEmpP W0.heap.size, isV sl, isOwnP W0.heap.size ([] ++ xs), isV sl, isV (.pointer (some ⟨gs, 0, none⟩)), isV (.agg #[.int .i64 x.print, .string x.text]), isLitP W0.heap.size x.print x.text,
   isOwnP W0.heap.size ([] ++ xs ++ [x]), isOwnP W0.heap.size ([] ++ xs ++ [x])]
def dsCons (j i : Nat) : Bool := (j == 2 && i == 0) || (j == 7 && (i == 2 || i == 6))
def dsS (j : Nat) (w w' : World) : Prop := w = w' ∨ Below w.heap.size w w' ∨ (j = 2 ∧ ∃ b, w.heap[b]? = some (.cells #[] 60 (0, 0)) ∧ w.grownBy w' (Value.ownBlock (.slice (some ⟨b, 0, none⟩) 0 0))) ∨ j = 7

set_option maxHeartbeats 2000000 in
set_option maxRecDepth 100000 in
theorem spec_l20Store_c (g p : Nat) (l : List Int) (nn : Int) (w : World) (h : Reader w g l p) (hp : p ≤ 1099511627) (hn0 : 0 ≤ nn) (hn9 : nn ≤ 1000000) :
    Calls Tryz.prog 110 #[.pointer (some ⟨g, 0, none⟩), .int .i64 nn] w (StoreD nn w g l p) := by
  have hgl : g < w.heap.size := h.lt
  have HR := hid h
  have hal : Below w.heap.size w (w.alloc (.cells #[] 60)) := (Below.refl _ _).alloc (Nat.le_refl _) _
  have hown0 : Hid (OwnP (w.alloc (.cells #[] 60)) w.heap.size (.slice (some ⟨w.heap.size, 0, none⟩) 0 0) []) := hid (Own.made _ (Nat.le_refl _))
  obtain ⟨⟨xs0, p0, ok0⟩, hE⟩ : ∃ P, putS [] (strL (folderText [])) = P := ⟨_, rfl⟩
  have HE := hid (show emptyRoot [] = (xs0, p0, ok0) from hE)
  have HG0 := hid (show Good1 xs0 by have := empty_good.2; rw [hE] at this; exact this)
  obtain ⟨i0, hi0, hz0, hz1, hz2⟩ := info_parts info_pcO
  clear h hE
  go_enter Tryz.func110, Tryz.ntmps110
  go_wp2_with fail
  refine (spec_EmptyRoot_c _ [] _ (Rd.of_own hown0.out) (by simp) (by simp)).mono ?_
  rw [HE.out]
  rintro e w1 ⟨v1, rfl, o1, b1⟩
  have d1 := hal.trans (b1.mono hal.size)
  have O1 := hid (o1.less hal.size)
  have R1 := hid (HR.out.on d1)
  have s1 := d1.size
  clear o1 b1 hal hown0
  go_wp2_with fail
  refine (spec_pick_c g p l 6 _ R1.out (by omega)).mono ?_
  rintro e w2 ⟨x, rfl, x0, x3, _, r2, g2⟩
  have R2 := hid r2
  have G2 := hid ((gb_of_below d1 (some g)).trans g2)
  have O2 := hid (O1.out.far g2 (fun b hb => by simp at hb; omega))
  have s2 := g2.size
  have x3' := x3 (by omega)
  obtain ⟨m, rfl⟩ : ∃ m : Nat, x = m := ⟨x.toNat, by omega⟩
  clear r2 g2 x3 O1 R1 d1
  go_wp2
  go_loopw [6, 7, 9] (fun sv rv kv wr => ∃ (q p' : Nat) (xs : List Pc) (root : Int), q ≤ m ∧ kv = .int .i64 q ∧ rv = .int .i64 root ∧ OwnP wr w.heap.size sv xs ∧ Hid (Good1 xs) ∧ p' + 4 * q ≤ p + 1 + 4 * m ∧ Hid (Reader wr g l p') ∧ Hid (w.grownBy wr (some g))) (fun _ _ k _ => (intOf k).toNat)
  case atStart => exact ⟨m, p + 1, xs0, p0, Nat.le_refl _, rfl, rfl, O2.out, HG0, by omega, R2, G2⟩
  case round =>
    obtain ⟨q, p', xs, root, hq, rfl, rfl, ho, HG, hp', R, G⟩ := hrel
    have hB := G.out.size
    by_cases hq0 : 0 < q
    · have HO := hid ho
      clear ho
      go_wp2_with fail
      refine (spec_l20Step_c g p' w.heap.size l _ xs root _ R.out (by omega) HO.out hgl hB HG.out).mono ?_
      rintro e w3 ⟨v3, xs3, root3, ok3, p3, rfl, o3, g3, hp3, r3, gg3⟩
      have O3 := hid o3
      have HG3 := hid g3
      have R3 := hid r3
      have G3 := hid (G.out.trans gg3)
      clear o3 g3 r3 gg3 HO R G
      go_wp2
      go_roundw
      case rel => exact ⟨q - 1, p3, xs3, root3, by omega, by go_num, rfl, O3.out, HG3, by omega, R3, G3⟩
      case measure => simp [intOf]; omega
    · obtain ⟨n, hn⟩ : ∃ n, xs.length = n := ⟨_, rfl⟩
      have HN := hid hn
      have hn40 : n ≤ 40 := by rw [← hn]; exact (st_in HG.out.1.1).1
      have hnp : 0 < n := by
        rw [← hn]
        have h0 := HG.out.2
        cases xs with
        | nil => exact absurd rfl h0
        | cons x r => simp
      obtain ⟨gs, c, rfl, hgs0, hgs, hnc⟩ := own_pc_slice ho hn hnp
      have HO := hid ho
      clear ho hn
      go_wp2_with fail
      refine (spec_odd_c g p' l nn _ R.out (by omega) hn0 hn9).mono ?_
      rintro e w4 ⟨y, p4, rfl, hy0, hp4, r4, g4⟩
      have s4 := g4.size
      have O4 := hid (HO.out.far g4 (fun b hb => by simp at hb; omega))
      have R4 := hid r4
      have G4 := hid (G.out.trans g4)
      have HZ := hid hy0
      clear r4 g4 HO R G hy0
      cases y
      · go_wp2
        go_ret2
        exact ⟨_, xs, root, p4, rfl, O4.out, fun _ => HG.out, HG.out.1.drawn HG.out.2, by omega, R4.out, G4.out⟩
      · go_wp2_with fail
        refine (spec_pick_c g p4 l 3 _ R4.out (by omega)).mono ?_
        rintro e w5 ⟨z, rfl, z0, z3, _, r5, g5⟩
        have s5 := g5.size
        have R5 := hid r5
        have G5 := hid (G4.out.trans g5)
        have O5 := hid (O4.out.far g5 (fun b hb => by simp at hb; omega))
        clear r5 g5 R4 G4 O4 z3
        by_cases hz0' : z = 0
        · have hzd : (z == 0) = true := by simp [hz0']
          clear hz0' z0
          have hal5 : Below w5.heap.size w5 (w5.alloc (.cells #[] 60)) := (Below.refl _ _).alloc (Nat.le_refl _) _
          go_wp2_with (at_builtin; refine wpList_cat (enc := encP) (w0 := w5.alloc (.cells #[] 60)) rfl _ _ 23 rfl w5.heap.size w5.heap.size 60 i0 _ 2 24 Tryz.underlying23 hi0 hz0 hz1 hz2 rfl (by decide) _ _ [] xs (Own.made w5 (Nat.le_refl _)) _ ((Rd.of_own O5.out).below hal5 (Nat.le_refl _)) (Below.refl _ _) (by simp) (Nat.le_refl _) rfl rfl encP_one (by have := HN.out; simp; omega) (by decide) ?_; intro v6 w6 hown' hb' hB' hg'; rw [List.nil_append] at hown'; obtain ⟨gt, ct, rfl, hgt0, hgt, hnct⟩ := own_pc_slice hown' HN.out hnp; have HO6 := hid hown'; have HB6 := hid (hal5.trans hb'); clear hown' hb' hg' hB')
          have b6 := HB6.out
          have hown' := HO6.out
          have O6 := hid (hown'.less (by omega : w.heap.size ≤ w5.heap.size))
          have R6 := hid (R5.out.on b6)
          have G6 := hid (G5.out.trans (gb_of_below b6 (some g)))
          have s6 := b6.size
          clear hown' HO6 HB6 b6 hal5 R5 G5 O5
          refine (spec_pick_c g _ l n _ R6.out (by omega)).mono ?_
          rintro e w7 ⟨jz, rfl, j0, j1, _, r7, g7⟩
          have j1' := j1 (by omega)
          obtain ⟨j, rfl⟩ : ∃ j : Nat, jz = j := ⟨jz.toNat, by omega⟩
          have hjn : j < n := by omega
          have hjn' : (j : Int) < n := by omega
          have s7 := g7.size
          have R7 := hid r7
          have G7 := hid (G6.out.trans g7)
          have O7 := hid (O6.out.far g7 (fun b hb => by simp at hb; omega))
          clear r7 g7 R6 G6 O6 j1 j0
          go_wp2_with fail
          refine (spec_pick_c g _ l 2 _ (R7.out.alloc _) (by omega)).mono ?_
          rintro e w8 ⟨iz, rfl, i00, i1, _, r8, g8⟩
          have i1' := i1 (by omega)
          obtain ⟨i, rfl⟩ : ∃ i : Nat, iz = i := ⟨iz.toNat, by omega⟩
          have hi2 : i < 2 := by omega
          have hh := (g8.block w7.heap.size (by simp) (some_ne (by omega))).trans (heap_alloc_new w7 _)
          obtain ⟨r, r0, r9, hr⟩ := intI_cell (lo := -1) (hi := 5) (t := 3) (cs := #[.int .i64 (-1), .int .i64 5]) (by rfl) hi2
          have hc := hr _ _ hh
          have s8 := g8.size
          have O8 := hid (((O7.out.alloc (.cells #[.int .i64 (-1), .int .i64 5] 3)).far g8 (fun b hb => by simp at hb; omega)))
          have R8 := hid r8
          have G8 := hid (G7.out.trans (gb_unalloc g8))
          obtain ⟨x, hx⟩ : ∃ x, xs[j]? = some x := ⟨xs[j]'(by have := HN.out; omega), List.getElem?_eq_getElem _⟩
          obtain ⟨o9, g9, ⟨y9, k9⟩, f9⟩ := own_pc_set (i := j * 2) (u := .int .i64 r) O8.out HN.out (by omega) (setP_flat1 xs j x r hx) (by simp [HN.out])
          have O9 := hid o9
          have HD := hid (drawn_print HG.out.1 HG.out.2 hx r)
          have R9 := hid (R8.out.kept g9 (fun b hb => by simp at hb; omega))
          have G9 := hid (show w.grownBy (w8.setCell ⟨gt, j * 2, none⟩ (.int .i64 r)) (some g) from gb_out G8.out g9 (fun b hb => .inr (by simp at hb; omega)))
          clear hh hr g8 r8 i1 R7 G7 O7 o9 g9 hx i00
          go_wp2
          go_ret2
          exact ⟨_, _, root, _, rfl, O9.out, fun h => (by have := HZ.out h; cases this), HD.out, by omega, R9.out, G9.out⟩
        · have hzd : (z == 0) = false := by simp [hz0']
          clear hz0'
          by_cases hz1' : z = 1
          · have hzd1 : (z == 1) = true := by simp [hz1']
            clear hz1' z0
            go_wp2
            refine drew_out w5 ⟨0, rfl⟩ ?_
            rintro W0 ⟨z00, hW0⟩
            have hw05 : Below w5.heap.size w5 W0 := by rw [hW0]; exact bl_drewN (Below.refl _ _) z00
            have hB0 : w.heap.size ≤ W0.heap.size := by have := hw05.size; omega
            have HH : Hid (Pcs W0 W0.heap.size (.slice (some ⟨gs, 0, none⟩) n c) xs) := hid ((Rd.of_own O5.out).on hw05)
            have hgsW : gs < W0.heap.size := by have := (O5.out.lt gs rfl).2; have := hw05.size; omega
            obtain ⟨a', c', hv', _, _, h3'⟩ := HH.out.pcs HN.out
            simp only [Value.slice.injEq] at hv'
            obtain ⟨rfl, _, rfl⟩ := hv'
            obtain ⟨b0, o0, r0, t0, hbo, hbl, hx0, k0, k1⟩ := h3' 0 hnp
            simp only [Option.some.injEq, Addr.mk.injEq, and_true] at hbo
            obtain ⟨rfl, rfl⟩ := hbo
            simp only [Nat.zero_mul, Nat.zero_add] at k0 k1
            have hgs := hgsW
            have hn0' : (0 : Int) < n := by omega
            have hn0 : 0 < n := hnp
            have R5' := hid (R5.out.on hw05)
            have G5' := hid (G5.out.trans (gb_of_below hw05 (some g)))
            clear h3' R5 G5 hW0 O5
            have R5 := R5'
            have G5 := G5'
            clear R5' G5'
            refine wp_region_inv3e rfl (by kernel_rfl) (by kernel_rfl) (by kernel_rfl) (by kernel_rfl) (by simp) (fun _ w' => Below W0.heap.size W0 w') (fun j w' w'' => dsS j w' w'') (fact (dsF W0 (.slice (some ⟨gs, 0, none⟩) n c) xs gs ⟨r0, t0⟩)) dsCons (Below.refl _ _).drew ?hF ?grd ?oo ?cg ?fin
            case hF =>
              intro j i v w' w'' hS hc hne hwt hdp hf
              have hi : i < 9 ∨ 9 ≤ i := by omega
              rcases hi with hi | hi
              · obtain rfl | rfl | rfl | rfl | rfl | rfl | rfl | rfl | rfl : i = 0 ∨ i = 1 ∨ i = 2 ∨ i = 3 ∨ i = 4 ∨ i = 5 ∨ i = 6 ∨ i = 7 ∨ i = 8 := by omega
                · rcases hS with rfl | hb | ⟨rfl, b, hh, hg⟩ | rfl
                  · exact hf
                  · obtain ⟨b0, h1, h2, h3, h4⟩ := hf; exact ⟨b0, h1, h2, (hb.block b0 (Array.getElem?_eq_some_iff.1 h3).1).trans h3, h4.on hb⟩
                  · simp [dsCons] at hc
                  · have h9 := hdp _ rfl ⟨2, .data⟩ (by simp) rfl; simp [dsCons] at h9
                · exact hf
                · rcases hS with rfl | hb | ⟨rfl, b, hh, hg⟩ | rfl
                  · exact hf
                  · exact Own.on hf hb
                  · exact absurd rfl hne
                  · simp [dsCons] at hc
                · exact hf
                · exact hf
                · exact hf
                · rcases hS with rfl | hb | ⟨rfl, b, hh, hg⟩ | rfl
                  · exact hf
                  · obtain ⟨b0, h1, h2, h3⟩ := hf; exact ⟨b0, h1, h2, (hb.block b0 (Array.getElem?_eq_some_iff.1 h3).1).trans h3⟩
                  · obtain ⟨b0, h1, h2, h3⟩ := hf; exact ⟨b0, h1, h2, (hg.block b0 (Array.getElem?_eq_some_iff.1 h3).1 (some_ne' (by rintro rfl; rw [hh] at h3; simp at h3))).trans h3⟩
                  · simp [dsCons] at hc
                · rcases hS with rfl | hb | ⟨rfl, b, hh, hg⟩ | rfl
                  · exact hf
                  · exact Own.on hf hb
                  · exact own_far_emp hf hh hg (by simp <;> omega)
                  · exact absurd rfl hne
                · rcases hS with rfl | hb | ⟨rfl, b, hh, hg⟩ | rfl
                  · exact hf
                  · exact Own.on hf hb
                  · exact own_far_emp hf hh hg (by simp <;> omega)
                  · exact absurd (hwt.symm.trans (c := true) (by kernel_rfl)) (by decide)
              · unfold fact at *; rw [List.getD_eq_getElem?_getD, List.getElem?_eq_none (by simpa [dsF] using hi)]; trivial
            case grd =>
              intro i oo d bb hi hg v w' hf
              obtain ⟨hlt1, rfl⟩ := Array.getElem?_eq_some_iff.1 hi
              have hlt' : i < 9 := hlt1
              clear hi
              obtain rfl | rfl | rfl | rfl | rfl | rfl | rfl | rfl | rfl : i = 0 ∨ i = 1 ∨ i = 2 ∨ i = 3 ∨ i = 4 ∨ i = 5 ∨ i = 6 ∨ i = 7 ∨ i = 8 := by omega
              all_goals simp at hg
            case cg =>
              intro i oo d bb hi hg j
              obtain ⟨hlt1, rfl⟩ := Array.getElem?_eq_some_iff.1 hi
              have hlt' : i < 9 := hlt1
              clear hi
              obtain rfl | rfl | rfl | rfl | rfl | rfl | rfl | rfl | rfl : i = 0 ∨ i = 1 ∨ i = 2 ∨ i = 3 ∨ i = 4 ∨ i = 5 ∨ i = 6 ∨ i = 7 ∨ i = 8 := by omega
              all_goals simp at hg
            case oo =>
              intro i oo hi qn a' wk hnn hj hb' hd
              obtain ⟨hlt1, rfl⟩ := Array.getElem?_eq_some_iff.1 hi
              have hlt' : i < 9 := hlt1
              clear hi
              obtain rfl | rfl | rfl | rfl | rfl | rfl | rfl | rfl | rfl : i = 0 ∨ i = 1 ∨ i = 2 ∨ i = 3 ∨ i = 4 ∨ i = 5 ∨ i = 6 ∨ i = 7 ∨ i = 8 := by omega
              · exact iv_val (v := .slice (some ⟨wk.heap.size, 0, none⟩) 0 0) (w' := wk.alloc (.cells #[] 60)) (by simp [execOp, go_sem, Result.andThen]) ⟨_, rfl, hj.alloc hj.size _, .inr (.inl ((Below.refl _ _).alloc (Nat.le_refl _) _)), (show isEmpP _ _ _ from ⟨_, rfl, hj.size, heap_alloc_new _ _, Own.made _ hj.size⟩)⟩
              · have b6 : a'.eval (.tmp 6) = .slice (some ⟨gs, 0, none⟩) n c := hb' 6 (by kernel_rfl); have c6 := ev_get b6
                exact iv_val (v := .slice (some ⟨gs, 0, none⟩) n c) (by simp [execOp, b6]) ⟨_, rfl, hj, .inl rfl, rfl⟩
              · have e0 : isEmpP W0.heap.size (a'.eval (.tmp 63)) wk := hd ⟨0, .data⟩ (by simp) rfl (by intro j _ hc; revert hc; unfold dsCons; simp; try omega)
                obtain ⟨b0, v0, hb0, hh0, o0⟩ := e0
                have v1 : a'.eval (.tmp 64) = .slice (some ⟨gs, 0, none⟩) n c := hd ⟨1, .data⟩ (by simp) rfl (by intro j _ hc; revert hc; unfold dsCons; simp; try omega)
                obtain ⟨i0, hi0, hz0, hz1, hz2⟩ := info_parts info_pcO
                refine wp_cat (enc := encP) wk (.tmp 63) (.tmp 64) 23 rfl W0.heap.size 60 i0 _ 2 24 Tryz.underlying23 hi0 hz0 hz1 hz2 rfl (by decide) (a'.eval (.tmp 63)) (.slice (some ⟨gs, 0, none⟩) n c) [] xs rfl v1 o0 _ (HH.out.below hj (Nat.le_refl _)) encP_one (by have := HN.out; simp <;> omega) (by decide) hj.size ?_
                intro v' w' ho hg hg'
                rw [v0] at hg
                exact ⟨_, rfl, hj.grown hg hj.size (fun g hg1 => by simp [Value.ownBlock] at hg1; omega), .inr (.inr (.inl ⟨rfl, b0, hh0, hg⟩)), (show isOwnP _ _ _ _ from ho)⟩
              · have b6 : a'.eval (.tmp 6) = .slice (some ⟨gs, 0, none⟩) n c := hb' 6 (by kernel_rfl); have c6 := ev_get b6
                exact iv_val (v := .slice (some ⟨gs, 0, none⟩) n c) (by simp [execOp, b6]) ⟨_, rfl, hj, .inl rfl, rfl⟩
              · have v3 : a'.eval (.tmp 66) = .slice (some ⟨gs, 0, none⟩) n c := hd ⟨3, .data⟩ (by simp) rfl (by intro j _ hc; revert hc; unfold dsCons; simp; try omega); have u3 := ev_get v3
                exact iv_val (v := .pointer (some ⟨gs, 0, none⟩)) (by simp [execOp, u3, hn0, go_sem, Result.andThen]) ⟨_, rfl, hj, .inl rfl, rfl⟩
              · have v4 : a'.eval (.tmp 67) = .pointer (some ⟨gs, 0, none⟩) := hd ⟨4, .data⟩ (by simp) rfl (by intro j _ hc; revert hc; unfold dsCons; simp; try omega); have u4 := ev_get v4
                have x0 := (hj.cell (p := ⟨gs, 0, none⟩) hgs).trans k0
                have x1 := (hj.cell (p := ⟨gs, 1, none⟩) hgs).trans k1
                exact iv_val (v := .agg #[.int .i64 r0, .string t0]) (by simp [execOp, u4, x0, x1, go_sem, Result.andThen]) ⟨_, rfl, hj, .inl rfl, rfl⟩
              · have v5 : a'.eval (.tmp 68) = .agg #[.int .i64 r0, .string t0] := hd ⟨5, .data⟩ (by simp) rfl (by intro j _ hc; revert hc; unfold dsCons; simp; try omega); have u5 := ev_get v5
                exact iv_val (v := .slice (some ⟨wk.heap.size, 0, none⟩) 1 1) (w' := wk.alloc (.cells #[.int .i64 r0, .string t0] 60)) (by simp [execOp, u5, go_sem, Result.andThen]) ⟨_, rfl, hj.alloc hj.size _, .inr (.inl ((Below.refl _ _).alloc (Nat.le_refl _) _)), (show isLitP _ _ _ _ _ from ⟨_, rfl, hj.size, heap_alloc_new _ _⟩)⟩
              · have e4 : isOwnP W0.heap.size ([] ++ xs) (a'.eval (.tmp 65)) wk := hd ⟨2, .data⟩ (by simp) rfl (by intro j _ hc; revert hc; unfold dsCons; simp; try omega)
                have e8 : isLitP W0.heap.size r0 t0 (a'.eval (.tmp 69)) wk := hd ⟨6, .data⟩ (by simp) rfl (by intro j _ hc; revert hc; unfold dsCons; simp; try omega)
                obtain ⟨b8, v8, hb8, hh8⟩ := e8
                obtain ⟨i0, hi0, hz0, hz1, hz2⟩ := info_parts info_pcO
                refine wp_cat (enc := encP) wk (.tmp 65) (.tmp 69) 23 rfl W0.heap.size 60 i0 _ 2 24 Tryz.underlying23 hi0 hz0 hz1 hz2 rfl (by decide) (a'.eval (.tmp 65)) (.slice (some ⟨b8, 0, none⟩) 1 1) ([] ++ xs) [(⟨r0, t0⟩ : Pc)] rfl v8 e4 _ (lit_rdP hh8) encP_one (by have := HN.out; simp <;> omega) (by decide) hj.size ?_
                intro v' w' ho hg hg'
                exact ⟨_, rfl, hj.grown hg hj.size (fun g hg1 => (Own.lt e4 g hg1).1), .inr (.inr (.inr rfl)), (show isOwnP _ _ _ _ from ho)⟩
              · have e13 : isOwnP W0.heap.size ([] ++ xs ++ [(⟨r0, t0⟩ : Pc)]) (a'.eval (.tmp 70)) wk := hd ⟨7, .data⟩ (by simp) rfl (by intro j _ hc; revert hc; unfold dsCons; simp; try omega)
                exact iv_val (v := a'.eval (.tmp 70)) (by simp [execOp]) ⟨_, rfl, hj, .inl rfl, e13⟩
            case fin =>
              intro tm w9 hj hF
              have o15 : OwnP w9 W0.heap.size (tm.getD 6 undef) ([] ++ xs ++ [(⟨r0, t0⟩ : Pc)]) := hF 8 _ rfl (fun j => by unfold dsCons; simp)
              rw [List.nil_append] at o15
              clear hF
              simp only [refillL, List.setIfInBounds_toArray, List.set_cons_succ, List.set_cons_zero]
              obtain ⟨sv, hsv⟩ : ∃ sv, tm.getD 6 undef = sv := ⟨_, rfl⟩
              rw [hsv] at o15 ⊢
              clear hsv
              have O15 := hid o15
              have R15 := hid (R5.out.on hj)
              have G15 := hid (G5.out.trans (gb_of_below hj (some g)))
              clear o15 hj
              go_wp2
              go_ret2
              exact ⟨sv, _, root, _, rfl, O15.out.less hB0, fun h => (by have := HZ.out h; cases this), drawn_twice HG.out.1 hx0.out, by omega, R15.out, G15.out⟩
          · have hzd1 : (z == 1) = false := by simp [hz1']
            clear hz1'
            have hal5 : Below w5.heap.size w5 (w5.alloc (.cells #[] 60)) := (Below.refl _ _).alloc (Nat.le_refl _) _
            go_upto_region 9 with (at_builtin; refine wpList_cat (enc := encP) (w0 := w5.alloc (.cells #[] 60)) rfl _ _ 23 rfl w5.heap.size w5.heap.size 60 i0 _ 2 24 Tryz.underlying23 hi0 hz0 hz1 hz2 rfl (by decide) _ _ [] xs (Own.made w5 (Nat.le_refl _)) _ ((Rd.of_own O5.out).below hal5 (Nat.le_refl _)) (Below.refl _ _) (by simp) (Nat.le_refl _) rfl rfl encP_one (by have := HN.out; simp; omega) (by decide) ?_; intro v6 w6 hown' hb' hB' hg'; rw [List.nil_append] at hown'; obtain ⟨gt, ct, rfl, hgt0, hgt, hnct⟩ := own_pc_slice hown' HN.out hnp; have HO6 := hid hown'; have HB6 := hid (hal5.trans hb'); clear hown' hb' hg' hB')
            have b6 := HB6.out
            have hown' := HO6.out
            have O6 := hid (hown'.less (by omega : w.heap.size ≤ w5.heap.size))
            have R6 := hid (R5.out.on b6)
            have G6 := hid (G5.out.trans (gb_of_below b6 (some g)))
            have s6 := b6.size
            obtain ⟨j, rfl⟩ : ∃ j : Nat, n = j + 1 := ⟨n - 1, by omega⟩
            have hw1 : IntKind.i64.wrap (((j + 1 : Nat) : Int) - 1) = (j : Int) := by rw [show ((j + 1 : Nat) : Int) - 1 = (j : Int) by omega]; exact IntWalk.i64_in _ (by omega)
            have hw2 : ((j + 1 : Nat) : Int) - 1 = (j : Int) := by omega
            have hjn' : (j : Int) < ((j + 1 : Nat) : Int) := by omega
            obtain ⟨x, hx⟩ : ∃ x, xs[j]? = some x := ⟨xs[j]'(by have := HN.out; omega), List.getElem?_eq_getElem _⟩
            obtain ⟨o9, g9, ⟨y9, k9⟩, f9⟩ := own_pc_set (i := j * 2 + 1) (u := .string TURNED) O6.out HN.out (by omega) (setP_flat2 xs j x TURNED hx) (by simp [HN.out])
            have O9 := hid o9
            have HD := hid (drawn_text HG.out.1 HG.out.2 hx)
            have R9 := hid (R6.out.kept g9 (fun b hb => by simp at hb; omega))
            have G9 := hid (show w.grownBy (w6.setCell ⟨gt, j * 2 + 1, none⟩ (.string TURNED)) (some g) from gb_out G6.out g9 (fun b hb => .inr (by simp at hb; omega)))
            clear hown' HO6 HB6 b6 hal5 R5 G5 O5 o9 g9 hx
            go_wp2
            go_ret2
            exact ⟨_, _, root, _, rfl, O9.out, fun h => (by have := HZ.out h; cases this), HD.out, by omega, R9.out, G9.out⟩

end Go.Proofs.YtachfmlfmpaddaaGreatDoor

/- Walks: ways through folders, the reference's way. -/
namespace Go.Proofs.YtachfmlfmpaddaaGreatDoor
open Go.RowKit

set_option maxHeartbeats 2000000 in
set_option maxRecDepth 100000 in
theorem spec_ReadFile_e (s : ByteArray) (w : World) (hs : s.size ≤ 1000000) :
    Calls Tryz.prog 79 #[.string s] w fun e w' => e = .returned (.tuple #[.string (strL (fileC (bs s))), .bool (isFile (bs s))]) ∧ w = w' := by
  by_cases h0 : 0 < s.size
  · have hx := bs_get s h0
    have hcons : bs s = s[0] :: (bs s).drop 1 := by
      cases hb : bs s with
      | nil => rw [hb] at hx; cases hx
      | cons a r => rw [hb] at hx; simp at hx; rw [hx]; rfl
    have hF : isFile (bs s) = (decide (s[0] = 102) && contOk ((bs s).drop 1)) := by rw [hcons]; rfl
    have hem : s.toList.isEmpty = false := by
      rw [ByteArray.toList_eq]
      cases hb : s.data.toList with
      | nil => have : (bs s).length = 0 := by unfold bs; rw [hb]; rfl
               rw [bs_len] at this; omega
      | cons _ _ => rfl
    by_cases hc : s[0] = 102
    · have hd0 : (s[0].toNat : Int) = 102 := by rw [hc]; rfl
      have HX := hid (show s.extract 1 s.size = strL ((bs s).drop 1) by rw [ext_strL, List.take_of_length_le (by rw [bs_len]; omega)])
      have HE := hid (show bs (s.extract 1 s.size) = (bs s).drop 1 by rw [HX.out, bs_strL])
      have hse : (s.extract 1 s.size).size ≤ 1000000 := by rw [ByteArray.size_extract]; omega
      obtain ⟨y, hy⟩ : ∃ y, contOk (bs (s.extract 1 s.size)) = y := ⟨_, rfl⟩
      have HY := hid hy
      have HO := hid (show isFile (bs s) = y by rw [hF, ← hy, HE.out]; simp [hc])
      have HSE := hid hse
      clear hy hx hcons hF hse
      cases y
      · have HC := hid (fileC_no HO.out)
        go_enter Tryz.func79, Tryz.ntmps79
        go_wp2_with (go_at_call 102; refine (spec_ContentValid_c _ _ HSE.out).mono ?_; rw [HY.out]; rintro e w' ⟨rfl, rfl⟩)
        go_ret2
        exact ⟨by rw [HO.out, HC.out]; rfl, rfl⟩
      · have HC := hid (show strL (fileC (bs s)) = s.extract 1 s.size by unfold fileC; rw [HO.out, HX.out]; rfl)
        go_enter Tryz.func79, Tryz.ntmps79
        go_wp2_with (go_at_call 102; refine (spec_ContentValid_c _ _ HSE.out).mono ?_; rw [HY.out]; rintro e w' ⟨rfl, rfl⟩)
        go_ret2
        exact ⟨by rw [HO.out, HC.out]; rfl, rfl⟩
    · have hd0 : ¬ (s[0].toNat : Int) = 102 := by
        intro e
        have : s[0].toNat = 102 := by omega
        exact hc (UInt8.toNat_inj.1 this)
      have HO := hid (show isFile (bs s) = false by rw [hF]; simp [hc])
      have HC := hid (fileC_no HO.out)
      clear hx hcons hF hc
      go_enter Tryz.func79, Tryz.ntmps79
      go_wp2
      go_ret2
      exact ⟨by rw [HO.out, HC.out]; rfl, rfl⟩
  · have hem : s.toList.isEmpty = true := by
      rw [ByteArray.toList_eq]
      have : (bs s).length = 0 := by rw [bs_len]; omega
      unfold bs at this
      rw [List.length_eq_zero_iff.1 this]; rfl
    have HO := hid (show isFile (bs s) = false by
      have : bs s = [] := List.length_eq_zero_iff.1 (by rw [bs_len]; omega)
      rw [this]; rfl)
    have HC := hid (fileC_no HO.out)
    clear h0
    go_enter Tryz.func79, Tryz.ntmps79
    go_wp2
    go_ret2
    exact ⟨by rw [HO.out, HC.out]; rfl, rfl⟩

end Go.Proofs.YtachfmlfmpaddaaGreatDoor

/- A store that holds another one has all its files, in plain Lean. -/
namespace Go.Proofs.YtachfmlfmpaddaaGreatDoor
open Go.RowKit

theorem textAt_le {s x : List Pc} (h : Le s x) {pr : Int} (hp : hasP s pr = true) : textAt x pr = textAt s pr := by
  unfold hasP at hp
  cases hg : getP s pr with
  | none => rw [hg] at hp; simp at hp
  | some t =>
    unfold textAt
    rw [hg, h _ _ hg]
theorem hasP_le {s x : List Pc} (h : Le s x) {pr : Int} (hp : hasP s pr = true) : hasP x pr = true := by
  unfold hasP at hp ⊢
  cases hg : getP s pr with
  | none => rw [hg] at hp; simp at hp
  | some t => rw [h _ _ hg]; rfl
theorem walk_le {s x : List Pc} (h : Le s x) : ∀ (ws : List ByteArray) (pr c : Int), walkAt s pr ws = (c, true) → walkAt x pr ws = (c, true)
  | [], pr, c, hw => by
    unfold walkAt at hw ⊢
    split at hw
    · rename_i hp
      rw [if_pos (hasP_le h hp)]; exact hw
    · cases hw
  | nm :: r, pr, c, hw => by
    cases hq : firstOf (entsOf (textAt s pr)) nm with
    | none => rw [walk_no hq] at hw; cases hw
    | some q =>
      rw [walk_some hq] at hw
      have hp : hasP s pr = true := by
        cases hp : hasP s pr
        · exfalso
          rw [textAt_none hp] at hq
          unfold entsOf at hq
          rw [readFolder_emp] at hq
          cases hq
        · rfl
      rw [walk_some (by rw [textAt_le h hp]; exact hq)]
      exact walk_le h r q c hw
theorem walk_has {s : List Pc} : ∀ (ws : List ByteArray) (pr c : Int), walkAt s pr ws = (c, true) → hasP s c = true
  | [], pr, c, hw => by
    unfold walkAt at hw
    split at hw
    · rename_i hp
      simp only [Prod.mk.injEq, and_true] at hw
      rw [← hw]; exact hp
    · cases hw
  | nm :: r, pr, c, hw => by
    cases hq : firstOf (entsOf (textAt s pr)) nm with
    | none => rw [walk_no hq] at hw; cases hw
    | some q => rw [walk_some hq] at hw; exact walk_has r q c hw
/-- keepsFiles. -/
theorem read_le {s x : List Pc} (h : Le s x) (hs : storeOk s = true) (hx : storeOk x = true) {root : Int} {path : List UInt8} (hr : (readAt s root path).2 = true) : readAt x root path = readAt s root path := by
  cases hp : pathParts path with
  | none =>
    have := walk_off (xs := s) (root := root) (path := path) (.inr hp)
    unfold readAt at hr
    rw [this] at hr
    simp at hr
  | some ws =>
    have hw := walk_on (root := root) hs hp
    have hw' := walk_on (root := root) hx hp
    unfold readAt at hr ⊢
    rw [hw] at hr ⊢
    rw [hw']
    obtain ⟨⟨c, ok⟩, hR⟩ : ∃ R, walkAt s root (ws.map strL) = R := ⟨_, rfl⟩
    rw [hR] at hr ⊢
    cases ok
    · simp at hr
    · rw [walk_le h _ _ _ hR]
      simp only [if_true]
      rw [textAt_le h (walk_has _ _ _ hR)]

end Go.Proofs.YtachfmlfmpaddaaGreatDoor

/- Walks: the lists of files, the program's way. -/
namespace Go.Proofs.YtachfmlfmpaddaaGreatDoor
open Go.RowKit

theorem flat_len_le {α β : Type} (f : α → List β) (m : Nat) : ∀ (l : List α), (∀ e ∈ l, (f e).length ≤ m) → (l.flatMap f).length ≤ l.length * m
  | [], _ => by simp
  | x :: r, h => by
    rw [List.flatMap_cons, List.length_append, List.length_cons, Nat.succ_mul]
    have h1 := h x (by simp)
    have h2 := flat_len_le f m r (fun e he => h e (by simp [he]))
    omega
/-- What one entry of a folder gives. -/
noncomputable def fileStep (xs : List Pc) (k : Nat) (parts : List ByteArray) (e : Ent) : List ByteArray := if isFile (textAt xs e.print) = true then [strL (joinP ((parts ++ [e.name]).map bs))] else belowF xs k e.print (parts ++ [e.name])
theorem below_step (xs : List Pc) (k : Nat) (pr : Int) (parts : List ByteArray) : belowF xs (k + 1) pr parts = (entsOf (textAt xs pr)).flatMap (fileStep xs k parts) := by
  conv => lhs; unfold belowF
  rfl
theorem below_len (xs : List Pc) : ∀ (k : Nat) (pr : Int) (parts : List ByteArray), (belowF xs k pr parts).length ≤ 3 ^ k
  | 0, pr, parts => by simp [belowF]
  | k + 1, pr, parts => by
    rw [below_step]
    have h1 := flat_len_le (fileStep xs k parts) (3 ^ k) (entsOf (textAt xs pr)) (fun e _ => by
      unfold fileStep
      split
      · simp only [List.length_singleton]; exact Nat.one_le_pow _ _ (by omega)
      · exact below_len xs k _ _)
    have h2 := entsOf_len (textAt xs pr)
    have h3 : (entsOf (textAt xs pr)).length * 3 ^ k ≤ 3 * 3 ^ k := Nat.mul_le_mul_right _ h2
    rw [Nat.pow_succ]; omega
theorem step_len (xs : List Pc) {k : Nat} (hk : k ≤ 2) (parts : List ByteArray) (e : Ent) : (fileStep xs k parts e).length ≤ 9 := by
  unfold fileStep
  split
  · simp
  · have h1 := below_len xs k e.print (parts ++ [e.name])
    have h2 : 3 ^ k ≤ 3 ^ 2 := Nat.pow_le_pow_right (by omega) hk
    omega
theorem flat_succ {α β : Type} (f : α → List β) {l : List α} {k : Nat} {x : α} (h : l[k]? = some x) : (l.take (k + 1)).flatMap f = (l.take k).flatMap f ++ f x := by rw [take_snoc' h, List.flatMap_append]; simp
theorem allFiles_len (xs : List Pc) (root : Int) : (allFiles xs root).length ≤ 27 := by
  unfold allFiles
  split
  · exact below_len xs 3 root []
  · simp
theorem allFiles_off {xs : List Pc} {root : Int} (h : storeOk xs = false) : allFiles xs root = [] := by unfold allFiles; rw [h]; rfl
theorem allFiles_on {xs : List Pc} {root : Int} (h : storeOk xs = true) : allFiles xs root = belowF xs 3 root [] := by unfold allFiles; rw [h]; rfl

section
variable {ops : Array Oper} {rest : List Oper} {o : Oper} {a : Act} {Q : Exit → Act → World → Prop} {w0 wr : World}
theorem cat_str (hgd : o.guard = none) (s x : Operand) (ho : o.op = .call { callee := .builtin .append, args := #[s, x], argTypes := #[28, 28] }) (B B0 : Nat) (v sv : Value) (acc ys : List ByteArray)
    (hown : OwnS wr B v acc) (Bs : Nat) (hr : Strs wr Bs sv ys) (hb : Below B0 w0 wr) (hB : B ≤ wr.heap.size) (hB0 : B0 ≤ B) (hs : a.eval s = v) (hx : a.eval x = sv) (hn : acc.length + ys.length < 1099511627776)
    (h : ∀ v' w', OwnS w' B v' (acc ++ ys) → Below B0 w0 w' → B ≤ w'.heap.size → wr.grownBy w' v.ownBlock ∧ (∀ g, v'.ownBlock = some g → v.ownBlock = some g ∨ wr.heap.size ≤ g) → wpList Tryz.prog ops Q rest (a.put o.dst v') w') :
    wpList Tryz.prog ops Q (o :: rest) a wr := by
  obtain ⟨i0, hi, hz0, hz1, hz2⟩ := info_parts info_string
  exact wpList_cat (enc := encS) hgd s x 28 ho B B0 9 i0 _ 1 16 Tryz.underlying28 hi hz0 hz1 hz2 rfl (by decide) v sv acc ys hown Bs hr hb hB hB0 hs hx (by simp [Value.oneCell']) hn (by decide) h
end

set_option maxHeartbeats 2000000 in
set_option maxRecDepth 100000 in
theorem cloneS_c (v : Value) (xs : List ByteArray) (w : World) (h : Strs w w.heap.size v xs) (hl : xs.length ≤ 1000000) :
    Calls Tryz.prog 139 #[v] w fun e w' => ∃ v', e = .returned v' ∧ OwnS w' w.heap.size v' xs ∧ Below w.heap.size w w' := by
  obtain ⟨n, hn⟩ : ∃ n, xs.length = n := ⟨_, rfl⟩
  obtain ⟨a, c, rfl, _, _, h3⟩ := h.strs hn
  have h0 := h
  obtain ⟨i0, hi0, hz0, hz1, hz2⟩ := info_parts info_string
  have qn : ∀ (w : World) (a : Option Addr) (n c n' c' : Nat), (binOp .eql 28 (.slice a n c) (.slice none n' c')).run Tryz.prog w = .ok (.bool a.isNone) w := fun w a n c n' c' => Lib.run_eql_slice_nil w _ _ a n c n' c' Tryz.underlying28
  cases a with
  | none =>
    have hn0 : n = 0 := by
      rcases Nat.eq_zero_or_pos n with h | h
      · exact h
      · obtain ⟨b, o, t, hb, _⟩ := h3 0 h; cases hb
    have hx : xs = [] := List.eq_nil_of_length_eq_zero (by omega)
    have HX := hid hx
    clear hx hn h3 h0 hl
    go_enter Tryz.func139, Tryz.ntmps139
    go_wp2_with (simp only [qn])
    go_ret
    exact ⟨_, rfl, by rw [HX.out]; exact Own.nil_, Below.refl _ _⟩
  | some ad =>
    have HN := hid hn
    have HL := hid hl
    have hal : Below w.heap.size w (w.alloc (.cells #[] 9)) := (Below.refl _ _).alloc (Nat.le_refl _) _
    clear hn h3 hl
    go_enter Tryz.func139, Tryz.ntmps139
    go_wp2_with (first | simp only [qn] | (at_builtin; refine wpList_cat (enc := encS) (w0 := w) rfl _ _ 28 rfl w.heap.size w.heap.size 9 i0 _ 1 16 Tryz.underlying28 hi0 hz0 hz1 hz2 rfl (by decide) _ _ [] xs (Own.made w (Nat.le_refl _)) _ (h0.below hal (Nat.le_refl _)) hal (by simp) (Nat.le_refl _) rfl rfl (by simp [Value.oneCell']) (by have := HL.out; simp; omega) (by decide) ?_; intro v' w' hown' hb' hB' hg'))
    go_ret
    exact ⟨_, rfl, hown', hb'⟩

end Go.Proofs.YtachfmlfmpaddaaGreatDoor

/- Walks: drawn stores with prints that are asked for, with roots. -/
namespace Go.Proofs.YtachfmlfmpaddaaGreatDoor
open Go.RowKit

theorem Reader.drewR {w : World} {g p : Nat} {l : List Int} (h : Reader w g l p) : Reader w.drew g l p := h.on (bl_drewN (Below.refl _ _) 1)

/-- The reader; what was written is its block, the row that is appended to, and new ones; that row stands as long as nothing was appended. -/
def QJ (W0 : World) (g : Nat) (l : List Int) (pq : Nat) (ov : Value) (B : Nat) (acc : List Int) (app : Nat) (L : Nat → Bool) (n : Nat) (w : World) : Prop :=
  ∃ p', p' ≤ pq + 4 * n ∧ Reader w g l p' ∧ Frm (fun k => k = g ∨ ov.ownBlock = some k) W0 w ∧ (L app = false → OwnI w B ov acc)

section
variable {W0 w w' : World} {g pq B app i n : Nat} {l acc : List Int} {ov : Value} {L : Nat → Bool}

theorem QJ.frm (h : QJ W0 g l pq ov B acc app L n w) : Frm (fun k => k = g ∨ ov.ownBlock = some k) W0 w := by obtain ⟨_, _, _, h, _⟩ := h; exact h

theorem QJ.step (h : QJ W0 g l pq ov B acc app L n w) : QJ W0 g l pq ov B acc app (fun k => if k = i then true else L k) (n + 1) w := by
  obtain ⟨p', h1, h2, h3, h4⟩ := h
  refine ⟨p', by omega, h2, h3, fun hL => h4 ?_⟩
  simp only at hL
  split at hL
  · cases hL
  · exact hL

theorem QJ.alloc (hne : i ≠ app) (h : QJ W0 g l pq ov B acc app L n w) (o : Obj) : QJ W0 g l pq ov B acc app (fun k => if k = i then true else L k) (n + 1) (w.alloc o) := by
  obtain ⟨p', h1, h2, h3, h4⟩ := h
  refine ⟨p', by omega, h2.alloc o, h3.trans (S' := fun _ => False) (Frm.of_below ((Below.refl _ _).alloc (Nat.le_refl _) _)) (fun _ _ e => e.elim), fun hL => ?_⟩
  simp only [if_neg (Ne.symm hne)] at hL
  exact (h4 hL).alloc o

theorem QJ.read {p9 : Nat} (hB : g < B) (hne : i ≠ app) (h : QJ W0 g l pq ov B acc app L n w) (r : Reader w' g l p9) (hp : p9 ≤ pq + 4 * (n + 1)) (gr : w.grownBy w' (some g)) : QJ W0 g l pq ov B acc app (fun k => if k = i then true else L k) (n + 1) w' := by
  obtain ⟨p', h1, h2, h3, h4⟩ := h
  refine ⟨p9, hp, r, h3.trans (S' := fun k => k = g) (Frm.of_grown gr (fun b hb => (Option.some.inj hb).symm)) (fun x hx e => .inl e), fun hL => ?_⟩
  simp only [if_neg (Ne.symm hne)] at hL
  exact (h4 hL).far gr (fun b hb => by simp at hb; omega)

end

section
variable {w w' : World} {g j J B K : Nat} {ov v : Value} {acc : List Int}
end

end Go.Proofs.YtachfmlfmpaddaaGreatDoor

/- Texts on a way and what they prove, in plain Lean. No program in sight. -/
namespace Go.Proofs.YtachfmlfmpaddaaGreatDoor
open Go.RowKit

theorem first_has {xs : List Pc} {pr c : Int} {nm : ByteArray} (h : firstOf (entsOf (textAt xs pr)) nm = some c) : hasP xs pr = true := by
  cases hp : hasP xs pr
  · exfalso
    rw [textAt_none hp] at h
    unfold entsOf at h
    rw [readFolder_emp] at h
    cases h
  · rfl
/-! ### FnPathProof, FnProofsHold -/
/-! ### FnProofRight, FnAbsenceRight -/
/-! ### FnProofContent -/
theorem file_back {l : List UInt8} (h : isFile l = true) : fileText (fileC l) = l := by
  cases l with
  | nil => cases h
  | cons c r =>
    rw [isFile_cons] at h
    simp only [Bool.and_eq_true, decide_eq_true_eq] at h
    obtain ⟨rfl, h2⟩ := h
    rw [fileC_yes h2]
    unfold fileText
    rw [if_pos h2]
/-! ### Absence -/
end Go.Proofs.YtachfmlfmpaddaaGreatDoor
