/- Walks and plain facts, joined: Where. -/
import Derived.Test.YtachfmlfmpaddaaGreatDoorMg6
import Derived.Test.YtachfmlfmpaddaaGreatDoorMg30
import Derived.Test.YtachfmlfmpaddaaGreatDoorMg36
import Derived.Test.YtachfmlfmpaddaaGreatDoorMg37
set_option linter.unusedVariables false
set_option linter.unusedSimpArgs false

/- Walks: drawn places in drawn stores. -/
namespace Go.Proofs.YtachfmlfmpaddaaGreatDoor
open Go.RowKit

theorem DrawnH.sizes2 {l : List Pc} (h : DrawnH l) : (∀ x ∈ l, x.text.size ≤ 1048576) ∧ l.length ≤ 1048576 := ⟨fun x hx => by have := h.2.1 x hx; omega, by have := h.1; omega⟩
theorem sweep_len {l : List Pc} {roots : List Int} : (sweepOf l roots).length ≤ l.length := by
  cases h : storeOk l
  · rw [sweepOf_off h]; simp
  · rw [sweepOf_on h]; exact List.length_filter_le _ _
theorem sweep_sub {l : List Pc} {roots : List Int} {x : Pc} (h : x ∈ sweepOf l roots) : x ∈ l := by
  cases hs : storeOk l
  · rw [sweepOf_off hs] at h; cases h
  · rw [sweepOf_on hs] at h; exact (List.mem_filter.1 h).1
def whCons (_ _ : Nat) : Bool := false
def isIx (n : Nat) : Value → World → Prop := fun v _ => ∃ x : Int, v = .int .i64 x ∧ 0 ≤ x ∧ x < n
def isFP (fb fo n : Nat) : Value → World → Prop := fun v _ => ∃ i, i < n ∧ v = .pointer (some ⟨fb, fo + i, none⟩)
def isPS : Value → World → Prop := fun v _ => ∃ s : ByteArray, v = .string s ∧ s.size ≤ 40

def whJ (g : Nat) (l : List Int) (p : Nat) (W0 : World) (n : Nat) (w : World) : Prop := ∃ p', p' ≤ p + n ∧ Reader w g l p' ∧ Frm (fun k => k = g) W0 w

theorem whStep {g : Nat} {l : List Int} {p n : Nat} {W0 w : World} (h : whJ g l p W0 n w) : whJ g l p W0 (n + 1) w := by
  obtain ⟨p', h1, h2, h3⟩ := h
  exact ⟨p', by omega, h2, h3⟩

/-- A drawn store, a root and a path. -/
def WhereB (w : World) (e : Ending) (w' : World) : Prop := ∃ (v : Value) (xs : List Pc) (root : Int) (path : ByteArray), e = .returned (.tuple #[v, .int .i64 root, .string path]) ∧ OwnP w' w.heap.size v xs ∧ DrawnH xs ∧ path.size ≤ 40 ∧ Below w.heap.size w w'

set_option maxHeartbeats 2000000 in
set_option maxRecDepth 100000 in
theorem spec_l20Where_c (v : Value) (l0 : List Int) (w : World) (h : Rd encU 1 w w.heap.size v l0) (hl : ∀ x ∈ l0, 0 ≤ x ∧ x ≤ 255) :
    Calls Tryz.prog 64 #[v] w (WhereB w) := by
  unfold WhereB
  go_enter Tryz.func64, Tryz.ntmps64
  go_wp2_with fail
  refine (spec_l20Open_c v l0 w h hl).mono ?_
  rintro e w0 ⟨l, rfl, r0, b0⟩
  clear h hl
  obtain ⟨g, hg⟩ : ∃ g, w.heap.size = g := ⟨_, rfl⟩
  rw [hg] at r0 b0 ⊢
  have HGG := hid hg
  clear hg
  have hgl : g < w0.heap.size := r0.lt
  have HB0 := hid b0
  clear b0
  go_wp2_with fail
  refine (spec_l20Store_c g 0 l 14 w0 r0 (by omega) (by omega) (by omega)).mono ?_
  rintro e w1 ⟨v2, xs, root, p1, rfl, o1, _, hd, hp1, r1, g1⟩
  have O1 := hid (o1.less (show g + 1 ≤ w0.heap.size by omega))
  have HD := hid hd
  have R1 := hid r1
  have D1 := hid (HB0.out.grown g1 (by omega) (fun b hb => by simp at hb; omega))
  clear o1 hd r1 g1 r0
  go_wp2_with fail
  refine (spec_odd_c g _ l 14 _ R1.out (by omega) (by omega) (by omega)).mono ?_
  rintro e w2 ⟨x2, p2, rfl, _, hp2, r2, g2⟩
  have R2 := hid r2
  have O2 := hid (O1.out.far g2 (fun b hb => by simp at hb; omega))
  have D2 := hid (D1.out.grown g2 (Nat.le_of_lt R1.out.lt) (fun b hb => by simp at hb; omega))
  clear r2 g2 R1 O1 D1
  cases x2
  · have R := R2
    have O := O2
    have D := D2
    clear R2 O2 D2
    go_wp2_with fail
    refine (spec_odd_c g _ l 9 _ R.out (by omega) (by omega) (by omega)).mono ?_
    rintro e w4 ⟨x4, p4, rfl, _, hp4, r4, g4⟩
    have R4 := hid r4
    have O4 := hid (O.out.far g4 (fun b hb => by simp at hb; omega))
    have D4 := hid (D.out.grown g4 (Nat.le_of_lt R.out.lt) (fun b hb => by simp at hb; omega))
    clear r4 g4 R O D
    cases x4
    · have R := R4
      have OY := O4
      have D := D4
      clear R4 O4 D4
      obtain ⟨ys, hys⟩ : ∃ ys, xs = ys := ⟨_, rfl⟩
      obtain ⟨yv, hyv⟩ : ∃ yv, v2 = yv := ⟨_, rfl⟩
      rw [hys, hyv] at OY
      rw [hyv]
      have HDY := hid (show DrawnH ys by rw [← hys]; exact HD.out.2)
      clear hys hyv
      obtain ⟨rt, hrt⟩ : ∃ rt, root = rt := ⟨_, rfl⟩
      rw [hrt]
      clear hrt
      obtain ⟨fs, hfs⟩ : ∃ fs, allFiles ys rt = fs := ⟨_, rfl⟩
      have HFS := hid hfs
      obtain ⟨n, hn⟩ : ∃ n, fs.length = n := ⟨_, rfl⟩
      have HN := hid hn
      have hn27 : n ≤ 27 := by rw [← hn, ← hfs]; exact allFiles_len _ _
      clear hfs hn
      go_wp2_with fail
      refine (spec_AllFiles_c _ ys rt _ (Rd.of_own OY.out) HDY.out.sizes2.1 HDY.out.sizes2.2).mono ?_
      rw [HFS.out]
      rintro e w6 ⟨fv, rfl, o6, b6⟩
      obtain ⟨fa, fc, rfl, _, _, h6⟩ := (Rd.of_own o6).strs HN.out
      have hlt6 := hid o6.lt
      have R6 := hid (R.out.on b6)
      have O6 := hid (OY.out.on b6)
      have D6 := hid (D.out.trans (b6.mono (Nat.le_of_lt R.out.lt)))
      have hgW := R.out.lt
      have H6 := hid h6
      clear o6 b6 h6 R OY D
      by_cases hn0 : n = 0
      · subst hn0
        go_wp2_with fail
        refine (spec_l20Path_c g _ l 12 _ R6.out (by omega) (by omega) (by omega)).mono ?_
        rintro e w8 ⟨s8, p8, rfl, hs8, _, hp8, r8, g8⟩
        have O8 := hid (O6.out.far g8 (fun b hb => by simp at hb; omega))
        have d8 := D6.out.grown g8 (Nat.le_of_lt R6.out.lt) (fun b hb => by simp at hb; omega)
        clear r8 g8
        go_wp2
        go_ret3
        have hge := HGG.out
        exact ⟨_, _, _, _, rfl, O8.out.less (by omega), HDY.out, by omega, (by rw [hge]; exact d8)⟩
      · have hnp : (0 : Int) < n := by omega
        go_wp2_with fail
        refine (spec_pick_c g _ l 2 _ R6.out (by omega)).mono ?_
        rintro e w7 ⟨x, rfl, x0, x3, _, r7, g7⟩
        obtain ⟨p7, hp7⟩ : ∃ p7, p4 + 1 = p7 := ⟨_, rfl⟩
        rw [hp7] at r7
        have R7 := hid r7
        have O7 := hid (O6.out.far g7 (fun b hb => by simp at hb; omega))
        have D7 := hid (D6.out.grown g7 (Nat.le_of_lt R6.out.lt) (fun b hb => by simp at hb; omega))
        have H7 := hid (show ∀ i, i < n → ∃ b o t, fa = some ⟨b, o, none⟩ ∧ b < w7.heap.size ∧ b ≠ g ∧ t.size ≤ 40 ∧ w7.cell? ⟨b, o + i, none⟩ = some (.string t) from fun i hi => by
          obtain ⟨b, o, t, ha, hb, hx, hc⟩ := H6.out i hi
          have hbg : b ≠ g := by have h5 := hlt6.out b (by rw [ha]; rfl); omega
          refine ⟨b, o, t, ha, Nat.lt_of_lt_of_le hb g7.size, hbg, files_path (by rw [HFS.out]; exact List.mem_of_getElem? hx.out), ?_⟩
          exact (World.cell?_of_block (a := ⟨b, o + i, none⟩) (g7.block b hb (fun e => hbg (Option.some.inj e)))).trans hc)
        clear r7 g7 H6 R6 O6 D6 x3
        by_cases hx0 : x = 0
        · have hxd : (x == 0) = true := by simp [hx0]
          clear hx0 x0
          obtain ⟨fb, fo, _, rfl, hfb7, hfbg0, _, _⟩ := H7.out 0 (by omega)
          go_wp2
          refine drew_out w7 ⟨0, rfl⟩ ?_
          rintro W0 ⟨z00, hW0⟩
          have hw0 : Below w7.heap.size w7 W0 := by rw [hW0]; exact bl_drewN (Below.refl _ _) z00
          have HRW := hid (R7.out.on hw0)
          have OW := hid (O7.out.on hw0)
          have DW := hid (D7.out.trans (hw0.mono (Nat.le_of_lt R7.out.lt)))
          have hfbl : fb < W0.heap.size := Nat.lt_of_lt_of_le hfb7 hw0.size
          have hfbg : ¬ (fb = g) := hfbg0
          have HCE := hid (show ∀ i, i < n → ∃ t : ByteArray, t.size ≤ 40 ∧ W0.cell? ⟨fb, fo + i, none⟩ = some (.string t) from fun i hi => by
            obtain ⟨b, o, t, ha, hb, _, ht, hc⟩ := H7.out i hi
            simp only [Option.some.injEq, Addr.mk.injEq, and_true] at ha
            obtain ⟨rfl, rfl⟩ := ha
            exact ⟨t, ht, (hw0.cell (p := ⟨fb, fo + i, none⟩) hb).trans hc⟩)
          clear hW0 hw0 H7 R7 O7 D7
          refine wp_region_inv3e rfl (by kernel_rfl) (by kernel_rfl) (by kernel_rfl) (by kernel_rfl) (by simp) (whJ g l p7 W0) (fun j w' w'' => True) (fact [isV yv, isV (.int .i64 rt), isV (.slice (some ⟨fb, fo, none⟩) n fc), isV (.pointer (some ⟨g, 0, none⟩)), isV (.slice (some ⟨fb, fo, none⟩) n fc), isV (.int .i64 n), isIx n, isFP fb fo n, isPS, isV yv, isV (.int .i64 rt), isPS]) whCons ⟨p7, by omega, HRW.out.drewR, Frm.of_below (bl_drewN (Below.refl _ _) 1)⟩ ?hF ?grd ?oo ?cg ?fin
          case hF =>
            intro j i v w' w'' hS hc hne hwt hdp hf
            have hi : i < 12 ∨ 12 ≤ i := by omega
            rcases hi with hi | hi
            · obtain rfl | rfl | rfl | rfl | rfl | rfl | rfl | rfl | rfl | rfl | rfl | rfl : i = 0 ∨ i = 1 ∨ i = 2 ∨ i = 3 ∨ i = 4 ∨ i = 5 ∨ i = 6 ∨ i = 7 ∨ i = 8 ∨ i = 9 ∨ i = 10 ∨ i = 11 := by omega
              · exact hf
              · exact hf
              · exact hf
              · exact hf
              · exact hf
              · exact hf
              · exact hf
              · exact hf
              · exact hf
              · exact hf
              · exact hf
              · exact hf
            · unfold fact at *; rw [List.getD_eq_getElem?_getD, List.getElem?_eq_none (by simpa using hi)]; trivial
          case grd =>
            intro i oo d bb hi hg v w' hf
            obtain ⟨hlt1, rfl⟩ := Array.getElem?_eq_some_iff.1 hi
            have hlt' : i < 12 := hlt1
            clear hi
            obtain rfl | rfl | rfl | rfl | rfl | rfl | rfl | rfl | rfl | rfl | rfl | rfl : i = 0 ∨ i = 1 ∨ i = 2 ∨ i = 3 ∨ i = 4 ∨ i = 5 ∨ i = 6 ∨ i = 7 ∨ i = 8 ∨ i = 9 ∨ i = 10 ∨ i = 11 := by omega
            all_goals simp at hg
          case cg =>
            intro i oo d bb hi hg j
            obtain ⟨hlt1, rfl⟩ := Array.getElem?_eq_some_iff.1 hi
            have hlt' : i < 12 := hlt1
            clear hi
            obtain rfl | rfl | rfl | rfl | rfl | rfl | rfl | rfl | rfl | rfl | rfl | rfl : i = 0 ∨ i = 1 ∨ i = 2 ∨ i = 3 ∨ i = 4 ∨ i = 5 ∨ i = 6 ∨ i = 7 ∨ i = 8 ∨ i = 9 ∨ i = 10 ∨ i = 11 := by omega
            all_goals simp at hg
          case oo =>
            intro i oo hi qn a' wk hnn hj hb' hd
            obtain ⟨hlt1, rfl⟩ := Array.getElem?_eq_some_iff.1 hi
            have hlt' : i < 12 := hlt1
            clear hi
            obtain rfl | rfl | rfl | rfl | rfl | rfl | rfl | rfl | rfl | rfl | rfl | rfl : i = 0 ∨ i = 1 ∨ i = 2 ∨ i = 3 ∨ i = 4 ∨ i = 5 ∨ i = 6 ∨ i = 7 ∨ i = 8 ∨ i = 9 ∨ i = 10 ∨ i = 11 := by omega
            · have b6 : a'.eval (.tmp 6) = yv := hb' 6 (by kernel_rfl); have c6 := ev_get b6
              exact iv_val (v := yv) (by simp [execOp, b6]) ⟨_, rfl, whStep hj, trivial, rfl⟩
            · have b7 : a'.eval (.tmp 7) = .int .i64 rt := hb' 7 (by kernel_rfl); have c7 := ev_get b7
              exact iv_val (v := .int .i64 rt) (by simp [execOp, b7]) ⟨_, rfl, whStep hj, trivial, rfl⟩
            · have b8 : a'.eval (.tmp 8) = .slice (some ⟨fb, fo, none⟩) n fc := hb' 8 (by kernel_rfl); have c8 := ev_get b8
              exact iv_val (v := .slice (some ⟨fb, fo, none⟩) n fc) (by simp [execOp, b8]) ⟨_, rfl, whStep hj, trivial, rfl⟩
            · have b5 : a'.eval (.tmp 5) = .pointer (some ⟨g, 0, none⟩) := hb' 5 (by kernel_rfl); have c5 := ev_get b5
              exact iv_val (v := .pointer (some ⟨g, 0, none⟩)) (by simp [execOp, b5]) ⟨_, rfl, whStep hj, trivial, rfl⟩
            · have b8 : a'.eval (.tmp 8) = .slice (some ⟨fb, fo, none⟩) n fc := hb' 8 (by kernel_rfl); have c8 := ev_get b8
              exact iv_val (v := .slice (some ⟨fb, fo, none⟩) n fc) (by simp [execOp, b8]) ⟨_, rfl, whStep hj, trivial, rfl⟩
            · have v4 : a'.eval (.tmp 41) = .slice (some ⟨fb, fo, none⟩) n fc := hd ⟨4, .data⟩ (by simp) rfl (by intro j _ hc; revert hc; unfold whCons; simp; try omega); have u4 := ev_get v4
              exact iv_val (v := .int .i64 n) (by simp [execOp, u4, go_sem, Result.andThen]) ⟨_, rfl, whStep hj, trivial, rfl⟩
            · have v3 : a'.eval (.tmp 40) = .pointer (some ⟨g, 0, none⟩) := hd ⟨3, .data⟩ (by simp) rfl (by intro j _ hc; revert hc; unfold whCons; simp; try omega); have u3 := ev_get v3
              have v5 : a'.eval (.tmp 42) = .int .i64 n := hd ⟨5, .data⟩ (by simp) rfl (by intro j _ hc; revert hc; unfold whCons; simp; try omega); have u5 := ev_get v5
              obtain ⟨p', hp', hr, hfm⟩ := hj
              have hq12 : qn < 12 := hnn
              refine iv_enter (f := 101) (args := #[.pointer (some ⟨g, 0, none⟩), .int .i64 n]) (by simp [execOp, u3, u5, go_sem]) ?_
              refine (spec_pick_c g p' l n wk hr (by omega)).mono ?_
              rintro e w9 ⟨x9, rfl, x90, x91, _, r9, g9⟩
              have x92 := x91 (by omega)
              exact ⟨_, rfl, _, rfl, ⟨p' + 1, by omega, r9, hfm.then' (Frm.of_grown g9 (fun b hb => (Option.some.inj hb).symm))⟩, trivial, (show isIx n _ w9 from ⟨x9, rfl, x90, x92⟩)⟩
            · have v2 : a'.eval (.tmp 39) = .slice (some ⟨fb, fo, none⟩) n fc := hd ⟨2, .data⟩ (by simp) rfl (by intro j _ hc; revert hc; unfold whCons; simp; try omega); have u2 := ev_get v2
              have e6 : isIx n (a'.eval (.tmp 43)) wk := hd ⟨6, .data⟩ (by simp) rfl (by intro j _ hc; revert hc; unfold whCons; simp; try omega)
              obtain ⟨x6, v6, x60, x61⟩ := e6
              have u6 := ev_get v6
              obtain ⟨i6, rfl⟩ : ∃ i6 : Nat, x6 = i6 := ⟨x6.toNat, by omega⟩
              exact iv_val (v := .pointer (some ⟨fb, fo + i6, none⟩)) (by simp [execOp, u2, u6, x61, go_sem, Result.andThen]) ⟨_, rfl, whStep hj, trivial, (show isFP fb fo n _ wk from ⟨i6, by omega, rfl⟩)⟩
            · have e7 : isFP fb fo n (a'.eval (.tmp 44)) wk := hd ⟨7, .data⟩ (by simp) rfl (by intro j _ hc; revert hc; unfold whCons; simp; try omega)
              obtain ⟨i7, hi7, v7⟩ := e7
              have u7 := ev_get v7
              obtain ⟨t7, ht7, hc7⟩ := HCE.out i7 hi7
              have x7 : wk.cell? ⟨fb, fo + i7, none⟩ = some (.string t7) := (by obtain ⟨_, _, _, hfm⟩ := hj; exact (World.cell?_of_block (a := ⟨fb, fo + i7, none⟩) (hfm.block fb hfbl hfbg)).trans hc7)
              exact iv_val (v := .string t7) (by simp [execOp, u7, x7, go_sem, Result.andThen]) ⟨_, rfl, whStep hj, trivial, (show isPS _ wk from ⟨t7, rfl, ht7⟩)⟩
            · have v0 : a'.eval (.tmp 37) = yv := hd ⟨0, .data⟩ (by simp) rfl (by intro j _ hc; revert hc; unfold whCons; simp; try omega); have u0 := ev_get v0
              exact iv_val (v := yv) (by simp [execOp, v0]) ⟨_, rfl, whStep hj, trivial, rfl⟩
            · have v1 : a'.eval (.tmp 38) = .int .i64 rt := hd ⟨1, .data⟩ (by simp) rfl (by intro j _ hc; revert hc; unfold whCons; simp; try omega); have u1 := ev_get v1
              exact iv_val (v := .int .i64 rt) (by simp [execOp, v1]) ⟨_, rfl, whStep hj, trivial, rfl⟩
            · have e8 : isPS (a'.eval (.tmp 45)) wk := hd ⟨8, .data⟩ (by simp) rfl (by intro j _ hc; revert hc; unfold whCons; simp; try omega)
              exact iv_val (v := a'.eval (.tmp 45)) (by simp [execOp]) ⟨_, rfl, whStep hj, trivial, e8⟩
          case fin =>
            intro tm w9 hj hF
            obtain ⟨p9, hp9, r9, fm9⟩ := hj
            have q2 : tm.getD 2 undef = yv := hF 9 _ rfl (fun j => rfl)
            have q3 : tm.getD 3 undef = .int .i64 rt := hF 10 _ rfl (fun j => rfl)
            have q4 : isPS (tm.getD 4 undef) w9 := hF 11 _ rfl (fun j => rfl)
            clear hF
            obtain ⟨s4, e4, hs4⟩ := q4
            simp only [refillL, List.setIfInBounds_toArray, List.set_cons_succ, List.set_cons_zero]
            rw [q2, q3, e4]
            have O9 := hid (OW.out.frm fm9 (fun b hb e => by have := (OW.out.lt b hb).1; omega))
            have d9 := DW.out.trans (fm9.below (B := g) (fun k hk => by omega) (Nat.le_of_lt HRW.out.lt))
            clear r9 fm9 q2 q3 e4
            go_wp2
            go_ret3
            have hge := HGG.out
            exact ⟨_, _, _, _, rfl, O9.out.less (by omega), HDY.out, hs4, (by rw [hge]; exact d9)⟩
        · have hxd : (x == 0) = false := by simp [hx0]
          clear hx0 x0 H7
          go_wp2_with fail
          refine (spec_l20Path_c g _ l 12 _ R7.out (by omega) (by omega) (by omega)).mono ?_
          rintro e w8 ⟨s8, p8, rfl, hs8, _, hp8, r8, g8⟩
          have O8 := hid (O7.out.far g8 (fun b hb => by simp at hb; omega))
          have d8 := D7.out.grown g8 (Nat.le_of_lt R7.out.lt) (fun b hb => by simp at hb; omega)
          clear r8 g8
          go_wp2
          go_ret3
          have hge := HGG.out
          exact ⟨_, _, _, _, rfl, O8.out.less (by omega), HDY.out, by omega, (by rw [hge]; exact d8)⟩
    · obtain ⟨W5, hW5⟩ : ∃ W5, W5 = w4.alloc (.cells #[.int .i64 (root), .int .i64 354] 3) := ⟨_, rfl⟩
      have hb5 : Below w4.heap.size w4 W5 := by rw [hW5]; exact (Below.refl _ _).alloc (Nat.le_refl _) _
      have I5 : Hid (OwnI W5 w4.heap.size (.slice (some ⟨w4.heap.size, 0, none⟩) 2 2) [root, 354]) := hid (by rw [hW5]; exact Own.lit _ (Nat.le_refl _) [_, _] _ 2 rfl rfl rfl (by decide))
      have R5 := hid (R4.out.on hb5)
      have O5 := hid (O4.out.on hb5)
      have D5 := hid (D4.out.trans (hb5.mono (Nat.le_of_lt R4.out.lt)))
      clear R4 O4 D4 hb5
      go_wp2_with fail
      rw [← hW5]
      refine (spec_SweepStore_c _ _ xs [root, 354] _ (Rd.of_own O5.out) (Rd.of_own I5.out) HD.out.2.sizes2.1 HD.out.2.sizes2.2).mono ?_
      rintro e w5 ⟨yv, rfl, o5, b5⟩
      have R := hid (R5.out.on b5)
      have D := hid (D5.out.trans (b5.mono (Nat.le_of_lt R5.out.lt)))
      have hgW5 := R5.out.lt
      have OY := hid (o5.less (show g + 1 ≤ W5.heap.size by omega))
      obtain ⟨ys, hys⟩ : ∃ ys, sweepOf xs [root, 354] = ys := ⟨_, rfl⟩
      rw [hys] at OY
      have HDY := hid (show DrawnH ys by rw [← hys]; exact drawn_sub HD.out.2 sweep_len (fun x hx => sweep_sub hx))
      clear hys o5 b5 R5 O5 D5 I5 hW5
      obtain ⟨rt, hrt⟩ : ∃ rt, root = rt := ⟨_, rfl⟩
      rw [hrt]
      clear hrt
      obtain ⟨fs, hfs⟩ : ∃ fs, allFiles ys rt = fs := ⟨_, rfl⟩
      have HFS := hid hfs
      obtain ⟨n, hn⟩ : ∃ n, fs.length = n := ⟨_, rfl⟩
      have HN := hid hn
      have hn27 : n ≤ 27 := by rw [← hn, ← hfs]; exact allFiles_len _ _
      clear hfs hn
      go_wp2_with fail
      refine (spec_AllFiles_c _ ys rt _ (Rd.of_own OY.out) HDY.out.sizes2.1 HDY.out.sizes2.2).mono ?_
      rw [HFS.out]
      rintro e w6 ⟨fv, rfl, o6, b6⟩
      obtain ⟨fa, fc, rfl, _, _, h6⟩ := (Rd.of_own o6).strs HN.out
      have hlt6 := hid o6.lt
      have R6 := hid (R.out.on b6)
      have O6 := hid (OY.out.on b6)
      have D6 := hid (D.out.trans (b6.mono (Nat.le_of_lt R.out.lt)))
      have hgW := R.out.lt
      have H6 := hid h6
      clear o6 b6 h6 R OY D
      by_cases hn0 : n = 0
      · subst hn0
        go_wp2_with fail
        refine (spec_l20Path_c g _ l 12 _ R6.out (by omega) (by omega) (by omega)).mono ?_
        rintro e w8 ⟨s8, p8, rfl, hs8, _, hp8, r8, g8⟩
        have O8 := hid (O6.out.far g8 (fun b hb => by simp at hb; omega))
        have d8 := D6.out.grown g8 (Nat.le_of_lt R6.out.lt) (fun b hb => by simp at hb; omega)
        clear r8 g8
        go_wp2
        go_ret3
        have hge := HGG.out
        exact ⟨_, _, _, _, rfl, O8.out.less (by omega), HDY.out, by omega, (by rw [hge]; exact d8)⟩
      · have hnp : (0 : Int) < n := by omega
        go_wp2_with fail
        refine (spec_pick_c g _ l 2 _ R6.out (by omega)).mono ?_
        rintro e w7 ⟨x, rfl, x0, x3, _, r7, g7⟩
        obtain ⟨p7, hp7⟩ : ∃ p7, p4 + 1 = p7 := ⟨_, rfl⟩
        rw [hp7] at r7
        have R7 := hid r7
        have O7 := hid (O6.out.far g7 (fun b hb => by simp at hb; omega))
        have D7 := hid (D6.out.grown g7 (Nat.le_of_lt R6.out.lt) (fun b hb => by simp at hb; omega))
        have H7 := hid (show ∀ i, i < n → ∃ b o t, fa = some ⟨b, o, none⟩ ∧ b < w7.heap.size ∧ b ≠ g ∧ t.size ≤ 40 ∧ w7.cell? ⟨b, o + i, none⟩ = some (.string t) from fun i hi => by
          obtain ⟨b, o, t, ha, hb, hx, hc⟩ := H6.out i hi
          have hbg : b ≠ g := by have h5 := hlt6.out b (by rw [ha]; rfl); omega
          refine ⟨b, o, t, ha, Nat.lt_of_lt_of_le hb g7.size, hbg, files_path (by rw [HFS.out]; exact List.mem_of_getElem? hx.out), ?_⟩
          exact (World.cell?_of_block (a := ⟨b, o + i, none⟩) (g7.block b hb (fun e => hbg (Option.some.inj e)))).trans hc)
        clear r7 g7 H6 R6 O6 D6 x3
        by_cases hx0 : x = 0
        · have hxd : (x == 0) = true := by simp [hx0]
          clear hx0 x0
          obtain ⟨fb, fo, _, rfl, hfb7, hfbg0, _, _⟩ := H7.out 0 (by omega)
          go_wp2
          refine drew_out w7 ⟨0, rfl⟩ ?_
          rintro W0 ⟨z00, hW0⟩
          have hw0 : Below w7.heap.size w7 W0 := by rw [hW0]; exact bl_drewN (Below.refl _ _) z00
          have HRW := hid (R7.out.on hw0)
          have OW := hid (O7.out.on hw0)
          have DW := hid (D7.out.trans (hw0.mono (Nat.le_of_lt R7.out.lt)))
          have hfbl : fb < W0.heap.size := Nat.lt_of_lt_of_le hfb7 hw0.size
          have hfbg : ¬ (fb = g) := hfbg0
          have HCE := hid (show ∀ i, i < n → ∃ t : ByteArray, t.size ≤ 40 ∧ W0.cell? ⟨fb, fo + i, none⟩ = some (.string t) from fun i hi => by
            obtain ⟨b, o, t, ha, hb, _, ht, hc⟩ := H7.out i hi
            simp only [Option.some.injEq, Addr.mk.injEq, and_true] at ha
            obtain ⟨rfl, rfl⟩ := ha
            exact ⟨t, ht, (hw0.cell (p := ⟨fb, fo + i, none⟩) hb).trans hc⟩)
          clear hW0 hw0 H7 R7 O7 D7
          refine wp_region_inv3e rfl (by kernel_rfl) (by kernel_rfl) (by kernel_rfl) (by kernel_rfl) (by simp) (whJ g l p7 W0) (fun j w' w'' => True) (fact [isV yv, isV (.int .i64 rt), isV (.slice (some ⟨fb, fo, none⟩) n fc), isV (.pointer (some ⟨g, 0, none⟩)), isV (.slice (some ⟨fb, fo, none⟩) n fc), isV (.int .i64 n), isIx n, isFP fb fo n, isPS, isV yv, isV (.int .i64 rt), isPS]) whCons ⟨p7, by omega, HRW.out.drewR, Frm.of_below (bl_drewN (Below.refl _ _) 1)⟩ ?hF ?grd ?oo ?cg ?fin
          case hF =>
            intro j i v w' w'' hS hc hne hwt hdp hf
            have hi : i < 12 ∨ 12 ≤ i := by omega
            rcases hi with hi | hi
            · obtain rfl | rfl | rfl | rfl | rfl | rfl | rfl | rfl | rfl | rfl | rfl | rfl : i = 0 ∨ i = 1 ∨ i = 2 ∨ i = 3 ∨ i = 4 ∨ i = 5 ∨ i = 6 ∨ i = 7 ∨ i = 8 ∨ i = 9 ∨ i = 10 ∨ i = 11 := by omega
              · exact hf
              · exact hf
              · exact hf
              · exact hf
              · exact hf
              · exact hf
              · exact hf
              · exact hf
              · exact hf
              · exact hf
              · exact hf
              · exact hf
            · unfold fact at *; rw [List.getD_eq_getElem?_getD, List.getElem?_eq_none (by simpa using hi)]; trivial
          case grd =>
            intro i oo d bb hi hg v w' hf
            obtain ⟨hlt1, rfl⟩ := Array.getElem?_eq_some_iff.1 hi
            have hlt' : i < 12 := hlt1
            clear hi
            obtain rfl | rfl | rfl | rfl | rfl | rfl | rfl | rfl | rfl | rfl | rfl | rfl : i = 0 ∨ i = 1 ∨ i = 2 ∨ i = 3 ∨ i = 4 ∨ i = 5 ∨ i = 6 ∨ i = 7 ∨ i = 8 ∨ i = 9 ∨ i = 10 ∨ i = 11 := by omega
            all_goals simp at hg
          case cg =>
            intro i oo d bb hi hg j
            obtain ⟨hlt1, rfl⟩ := Array.getElem?_eq_some_iff.1 hi
            have hlt' : i < 12 := hlt1
            clear hi
            obtain rfl | rfl | rfl | rfl | rfl | rfl | rfl | rfl | rfl | rfl | rfl | rfl : i = 0 ∨ i = 1 ∨ i = 2 ∨ i = 3 ∨ i = 4 ∨ i = 5 ∨ i = 6 ∨ i = 7 ∨ i = 8 ∨ i = 9 ∨ i = 10 ∨ i = 11 := by omega
            all_goals simp at hg
          case oo =>
            intro i oo hi qn a' wk hnn hj hb' hd
            obtain ⟨hlt1, rfl⟩ := Array.getElem?_eq_some_iff.1 hi
            have hlt' : i < 12 := hlt1
            clear hi
            obtain rfl | rfl | rfl | rfl | rfl | rfl | rfl | rfl | rfl | rfl | rfl | rfl : i = 0 ∨ i = 1 ∨ i = 2 ∨ i = 3 ∨ i = 4 ∨ i = 5 ∨ i = 6 ∨ i = 7 ∨ i = 8 ∨ i = 9 ∨ i = 10 ∨ i = 11 := by omega
            · have b6 : a'.eval (.tmp 6) = yv := hb' 6 (by kernel_rfl); have c6 := ev_get b6
              exact iv_val (v := yv) (by simp [execOp, b6]) ⟨_, rfl, whStep hj, trivial, rfl⟩
            · have b7 : a'.eval (.tmp 7) = .int .i64 rt := hb' 7 (by kernel_rfl); have c7 := ev_get b7
              exact iv_val (v := .int .i64 rt) (by simp [execOp, b7]) ⟨_, rfl, whStep hj, trivial, rfl⟩
            · have b8 : a'.eval (.tmp 8) = .slice (some ⟨fb, fo, none⟩) n fc := hb' 8 (by kernel_rfl); have c8 := ev_get b8
              exact iv_val (v := .slice (some ⟨fb, fo, none⟩) n fc) (by simp [execOp, b8]) ⟨_, rfl, whStep hj, trivial, rfl⟩
            · have b5 : a'.eval (.tmp 5) = .pointer (some ⟨g, 0, none⟩) := hb' 5 (by kernel_rfl); have c5 := ev_get b5
              exact iv_val (v := .pointer (some ⟨g, 0, none⟩)) (by simp [execOp, b5]) ⟨_, rfl, whStep hj, trivial, rfl⟩
            · have b8 : a'.eval (.tmp 8) = .slice (some ⟨fb, fo, none⟩) n fc := hb' 8 (by kernel_rfl); have c8 := ev_get b8
              exact iv_val (v := .slice (some ⟨fb, fo, none⟩) n fc) (by simp [execOp, b8]) ⟨_, rfl, whStep hj, trivial, rfl⟩
            · have v4 : a'.eval (.tmp 41) = .slice (some ⟨fb, fo, none⟩) n fc := hd ⟨4, .data⟩ (by simp) rfl (by intro j _ hc; revert hc; unfold whCons; simp; try omega); have u4 := ev_get v4
              exact iv_val (v := .int .i64 n) (by simp [execOp, u4, go_sem, Result.andThen]) ⟨_, rfl, whStep hj, trivial, rfl⟩
            · have v3 : a'.eval (.tmp 40) = .pointer (some ⟨g, 0, none⟩) := hd ⟨3, .data⟩ (by simp) rfl (by intro j _ hc; revert hc; unfold whCons; simp; try omega); have u3 := ev_get v3
              have v5 : a'.eval (.tmp 42) = .int .i64 n := hd ⟨5, .data⟩ (by simp) rfl (by intro j _ hc; revert hc; unfold whCons; simp; try omega); have u5 := ev_get v5
              obtain ⟨p', hp', hr, hfm⟩ := hj
              have hq12 : qn < 12 := hnn
              refine iv_enter (f := 101) (args := #[.pointer (some ⟨g, 0, none⟩), .int .i64 n]) (by simp [execOp, u3, u5, go_sem]) ?_
              refine (spec_pick_c g p' l n wk hr (by omega)).mono ?_
              rintro e w9 ⟨x9, rfl, x90, x91, _, r9, g9⟩
              have x92 := x91 (by omega)
              exact ⟨_, rfl, _, rfl, ⟨p' + 1, by omega, r9, hfm.then' (Frm.of_grown g9 (fun b hb => (Option.some.inj hb).symm))⟩, trivial, (show isIx n _ w9 from ⟨x9, rfl, x90, x92⟩)⟩
            · have v2 : a'.eval (.tmp 39) = .slice (some ⟨fb, fo, none⟩) n fc := hd ⟨2, .data⟩ (by simp) rfl (by intro j _ hc; revert hc; unfold whCons; simp; try omega); have u2 := ev_get v2
              have e6 : isIx n (a'.eval (.tmp 43)) wk := hd ⟨6, .data⟩ (by simp) rfl (by intro j _ hc; revert hc; unfold whCons; simp; try omega)
              obtain ⟨x6, v6, x60, x61⟩ := e6
              have u6 := ev_get v6
              obtain ⟨i6, rfl⟩ : ∃ i6 : Nat, x6 = i6 := ⟨x6.toNat, by omega⟩
              exact iv_val (v := .pointer (some ⟨fb, fo + i6, none⟩)) (by simp [execOp, u2, u6, x61, go_sem, Result.andThen]) ⟨_, rfl, whStep hj, trivial, (show isFP fb fo n _ wk from ⟨i6, by omega, rfl⟩)⟩
            · have e7 : isFP fb fo n (a'.eval (.tmp 44)) wk := hd ⟨7, .data⟩ (by simp) rfl (by intro j _ hc; revert hc; unfold whCons; simp; try omega)
              obtain ⟨i7, hi7, v7⟩ := e7
              have u7 := ev_get v7
              obtain ⟨t7, ht7, hc7⟩ := HCE.out i7 hi7
              have x7 : wk.cell? ⟨fb, fo + i7, none⟩ = some (.string t7) := (by obtain ⟨_, _, _, hfm⟩ := hj; exact (World.cell?_of_block (a := ⟨fb, fo + i7, none⟩) (hfm.block fb hfbl hfbg)).trans hc7)
              exact iv_val (v := .string t7) (by simp [execOp, u7, x7, go_sem, Result.andThen]) ⟨_, rfl, whStep hj, trivial, (show isPS _ wk from ⟨t7, rfl, ht7⟩)⟩
            · have v0 : a'.eval (.tmp 37) = yv := hd ⟨0, .data⟩ (by simp) rfl (by intro j _ hc; revert hc; unfold whCons; simp; try omega); have u0 := ev_get v0
              exact iv_val (v := yv) (by simp [execOp, v0]) ⟨_, rfl, whStep hj, trivial, rfl⟩
            · have v1 : a'.eval (.tmp 38) = .int .i64 rt := hd ⟨1, .data⟩ (by simp) rfl (by intro j _ hc; revert hc; unfold whCons; simp; try omega); have u1 := ev_get v1
              exact iv_val (v := .int .i64 rt) (by simp [execOp, v1]) ⟨_, rfl, whStep hj, trivial, rfl⟩
            · have e8 : isPS (a'.eval (.tmp 45)) wk := hd ⟨8, .data⟩ (by simp) rfl (by intro j _ hc; revert hc; unfold whCons; simp; try omega)
              exact iv_val (v := a'.eval (.tmp 45)) (by simp [execOp]) ⟨_, rfl, whStep hj, trivial, e8⟩
          case fin =>
            intro tm w9 hj hF
            obtain ⟨p9, hp9, r9, fm9⟩ := hj
            have q2 : tm.getD 2 undef = yv := hF 9 _ rfl (fun j => rfl)
            have q3 : tm.getD 3 undef = .int .i64 rt := hF 10 _ rfl (fun j => rfl)
            have q4 : isPS (tm.getD 4 undef) w9 := hF 11 _ rfl (fun j => rfl)
            clear hF
            obtain ⟨s4, e4, hs4⟩ := q4
            simp only [refillL, List.setIfInBounds_toArray, List.set_cons_succ, List.set_cons_zero]
            rw [q2, q3, e4]
            have O9 := hid (OW.out.frm fm9 (fun b hb e => by have := (OW.out.lt b hb).1; omega))
            have d9 := DW.out.trans (fm9.below (B := g) (fun k hk => by omega) (Nat.le_of_lt HRW.out.lt))
            clear r9 fm9 q2 q3 e4
            go_wp2
            go_ret3
            have hge := HGG.out
            exact ⟨_, _, _, _, rfl, O9.out.less (by omega), HDY.out, hs4, (by rw [hge]; exact d9)⟩
        · have hxd : (x == 0) = false := by simp [hx0]
          clear hx0 x0 H7
          go_wp2_with fail
          refine (spec_l20Path_c g _ l 12 _ R7.out (by omega) (by omega) (by omega)).mono ?_
          rintro e w8 ⟨s8, p8, rfl, hs8, _, hp8, r8, g8⟩
          have O8 := hid (O7.out.far g8 (fun b hb => by simp at hb; omega))
          have d8 := D7.out.grown g8 (Nat.le_of_lt R7.out.lt) (fun b hb => by simp at hb; omega)
          clear r8 g8
          go_wp2
          go_ret3
          have hge := HGG.out
          exact ⟨_, _, _, _, rfl, O8.out.less (by omega), HDY.out, by omega, (by rw [hge]; exact d8)⟩
  · go_wp2_with fail
    refine (spec_l20Print_c g _ l 2 _ R2.out (by omega) (by omega) (by omega)).mono ?_
    rintro e w3 ⟨rx, p3, rfl, hp3, r3, g3⟩
    have R := hid r3
    have O := hid (O2.out.far g3 (fun b hb => by simp at hb; omega))
    have D := hid (D2.out.grown g3 (Nat.le_of_lt R2.out.lt) (fun b hb => by simp at hb; omega))
    clear r3 g3 R2 O2 D2
    go_wp2_with fail
    refine (spec_odd_c g _ l 9 _ R.out (by omega) (by omega) (by omega)).mono ?_
    rintro e w4 ⟨x4, p4, rfl, _, hp4, r4, g4⟩
    have R4 := hid r4
    have O4 := hid (O.out.far g4 (fun b hb => by simp at hb; omega))
    have D4 := hid (D.out.grown g4 (Nat.le_of_lt R.out.lt) (fun b hb => by simp at hb; omega))
    clear r4 g4 R O D
    cases x4
    · have R := R4
      have OY := O4
      have D := D4
      clear R4 O4 D4
      obtain ⟨ys, hys⟩ : ∃ ys, xs = ys := ⟨_, rfl⟩
      obtain ⟨yv, hyv⟩ : ∃ yv, v2 = yv := ⟨_, rfl⟩
      rw [hys, hyv] at OY
      rw [hyv]
      have HDY := hid (show DrawnH ys by rw [← hys]; exact HD.out.2)
      clear hys hyv
      obtain ⟨rt, hrt⟩ : ∃ rt, rx = rt := ⟨_, rfl⟩
      rw [hrt]
      clear hrt
      obtain ⟨fs, hfs⟩ : ∃ fs, allFiles ys rt = fs := ⟨_, rfl⟩
      have HFS := hid hfs
      obtain ⟨n, hn⟩ : ∃ n, fs.length = n := ⟨_, rfl⟩
      have HN := hid hn
      have hn27 : n ≤ 27 := by rw [← hn, ← hfs]; exact allFiles_len _ _
      clear hfs hn
      go_wp2_with fail
      refine (spec_AllFiles_c _ ys rt _ (Rd.of_own OY.out) HDY.out.sizes2.1 HDY.out.sizes2.2).mono ?_
      rw [HFS.out]
      rintro e w6 ⟨fv, rfl, o6, b6⟩
      obtain ⟨fa, fc, rfl, _, _, h6⟩ := (Rd.of_own o6).strs HN.out
      have hlt6 := hid o6.lt
      have R6 := hid (R.out.on b6)
      have O6 := hid (OY.out.on b6)
      have D6 := hid (D.out.trans (b6.mono (Nat.le_of_lt R.out.lt)))
      have hgW := R.out.lt
      have H6 := hid h6
      clear o6 b6 h6 R OY D
      by_cases hn0 : n = 0
      · subst hn0
        go_wp2_with fail
        refine (spec_l20Path_c g _ l 12 _ R6.out (by omega) (by omega) (by omega)).mono ?_
        rintro e w8 ⟨s8, p8, rfl, hs8, _, hp8, r8, g8⟩
        have O8 := hid (O6.out.far g8 (fun b hb => by simp at hb; omega))
        have d8 := D6.out.grown g8 (Nat.le_of_lt R6.out.lt) (fun b hb => by simp at hb; omega)
        clear r8 g8
        go_wp2
        go_ret3
        have hge := HGG.out
        exact ⟨_, _, _, _, rfl, O8.out.less (by omega), HDY.out, by omega, (by rw [hge]; exact d8)⟩
      · have hnp : (0 : Int) < n := by omega
        go_wp2_with fail
        refine (spec_pick_c g _ l 2 _ R6.out (by omega)).mono ?_
        rintro e w7 ⟨x, rfl, x0, x3, _, r7, g7⟩
        obtain ⟨p7, hp7⟩ : ∃ p7, p4 + 1 = p7 := ⟨_, rfl⟩
        rw [hp7] at r7
        have R7 := hid r7
        have O7 := hid (O6.out.far g7 (fun b hb => by simp at hb; omega))
        have D7 := hid (D6.out.grown g7 (Nat.le_of_lt R6.out.lt) (fun b hb => by simp at hb; omega))
        have H7 := hid (show ∀ i, i < n → ∃ b o t, fa = some ⟨b, o, none⟩ ∧ b < w7.heap.size ∧ b ≠ g ∧ t.size ≤ 40 ∧ w7.cell? ⟨b, o + i, none⟩ = some (.string t) from fun i hi => by
          obtain ⟨b, o, t, ha, hb, hx, hc⟩ := H6.out i hi
          have hbg : b ≠ g := by have h5 := hlt6.out b (by rw [ha]; rfl); omega
          refine ⟨b, o, t, ha, Nat.lt_of_lt_of_le hb g7.size, hbg, files_path (by rw [HFS.out]; exact List.mem_of_getElem? hx.out), ?_⟩
          exact (World.cell?_of_block (a := ⟨b, o + i, none⟩) (g7.block b hb (fun e => hbg (Option.some.inj e)))).trans hc)
        clear r7 g7 H6 R6 O6 D6 x3
        by_cases hx0 : x = 0
        · have hxd : (x == 0) = true := by simp [hx0]
          clear hx0 x0
          obtain ⟨fb, fo, _, rfl, hfb7, hfbg0, _, _⟩ := H7.out 0 (by omega)
          go_wp2
          refine drew_out w7 ⟨0, rfl⟩ ?_
          rintro W0 ⟨z00, hW0⟩
          have hw0 : Below w7.heap.size w7 W0 := by rw [hW0]; exact bl_drewN (Below.refl _ _) z00
          have HRW := hid (R7.out.on hw0)
          have OW := hid (O7.out.on hw0)
          have DW := hid (D7.out.trans (hw0.mono (Nat.le_of_lt R7.out.lt)))
          have hfbl : fb < W0.heap.size := Nat.lt_of_lt_of_le hfb7 hw0.size
          have hfbg : ¬ (fb = g) := hfbg0
          have HCE := hid (show ∀ i, i < n → ∃ t : ByteArray, t.size ≤ 40 ∧ W0.cell? ⟨fb, fo + i, none⟩ = some (.string t) from fun i hi => by
            obtain ⟨b, o, t, ha, hb, _, ht, hc⟩ := H7.out i hi
            simp only [Option.some.injEq, Addr.mk.injEq, and_true] at ha
            obtain ⟨rfl, rfl⟩ := ha
            exact ⟨t, ht, (hw0.cell (p := ⟨fb, fo + i, none⟩) hb).trans hc⟩)
          clear hW0 hw0 H7 R7 O7 D7
          refine wp_region_inv3e rfl (by kernel_rfl) (by kernel_rfl) (by kernel_rfl) (by kernel_rfl) (by simp) (whJ g l p7 W0) (fun j w' w'' => True) (fact [isV yv, isV (.int .i64 rt), isV (.slice (some ⟨fb, fo, none⟩) n fc), isV (.pointer (some ⟨g, 0, none⟩)), isV (.slice (some ⟨fb, fo, none⟩) n fc), isV (.int .i64 n), isIx n, isFP fb fo n, isPS, isV yv, isV (.int .i64 rt), isPS]) whCons ⟨p7, by omega, HRW.out.drewR, Frm.of_below (bl_drewN (Below.refl _ _) 1)⟩ ?hF ?grd ?oo ?cg ?fin
          case hF =>
            intro j i v w' w'' hS hc hne hwt hdp hf
            have hi : i < 12 ∨ 12 ≤ i := by omega
            rcases hi with hi | hi
            · obtain rfl | rfl | rfl | rfl | rfl | rfl | rfl | rfl | rfl | rfl | rfl | rfl : i = 0 ∨ i = 1 ∨ i = 2 ∨ i = 3 ∨ i = 4 ∨ i = 5 ∨ i = 6 ∨ i = 7 ∨ i = 8 ∨ i = 9 ∨ i = 10 ∨ i = 11 := by omega
              · exact hf
              · exact hf
              · exact hf
              · exact hf
              · exact hf
              · exact hf
              · exact hf
              · exact hf
              · exact hf
              · exact hf
              · exact hf
              · exact hf
            · unfold fact at *; rw [List.getD_eq_getElem?_getD, List.getElem?_eq_none (by simpa using hi)]; trivial
          case grd =>
            intro i oo d bb hi hg v w' hf
            obtain ⟨hlt1, rfl⟩ := Array.getElem?_eq_some_iff.1 hi
            have hlt' : i < 12 := hlt1
            clear hi
            obtain rfl | rfl | rfl | rfl | rfl | rfl | rfl | rfl | rfl | rfl | rfl | rfl : i = 0 ∨ i = 1 ∨ i = 2 ∨ i = 3 ∨ i = 4 ∨ i = 5 ∨ i = 6 ∨ i = 7 ∨ i = 8 ∨ i = 9 ∨ i = 10 ∨ i = 11 := by omega
            all_goals simp at hg
          case cg =>
            intro i oo d bb hi hg j
            obtain ⟨hlt1, rfl⟩ := Array.getElem?_eq_some_iff.1 hi
            have hlt' : i < 12 := hlt1
            clear hi
            obtain rfl | rfl | rfl | rfl | rfl | rfl | rfl | rfl | rfl | rfl | rfl | rfl : i = 0 ∨ i = 1 ∨ i = 2 ∨ i = 3 ∨ i = 4 ∨ i = 5 ∨ i = 6 ∨ i = 7 ∨ i = 8 ∨ i = 9 ∨ i = 10 ∨ i = 11 := by omega
            all_goals simp at hg
          case oo =>
            intro i oo hi qn a' wk hnn hj hb' hd
            obtain ⟨hlt1, rfl⟩ := Array.getElem?_eq_some_iff.1 hi
            have hlt' : i < 12 := hlt1
            clear hi
            obtain rfl | rfl | rfl | rfl | rfl | rfl | rfl | rfl | rfl | rfl | rfl | rfl : i = 0 ∨ i = 1 ∨ i = 2 ∨ i = 3 ∨ i = 4 ∨ i = 5 ∨ i = 6 ∨ i = 7 ∨ i = 8 ∨ i = 9 ∨ i = 10 ∨ i = 11 := by omega
            · have b6 : a'.eval (.tmp 6) = yv := hb' 6 (by kernel_rfl); have c6 := ev_get b6
              exact iv_val (v := yv) (by simp [execOp, b6]) ⟨_, rfl, whStep hj, trivial, rfl⟩
            · have b7 : a'.eval (.tmp 7) = .int .i64 rt := hb' 7 (by kernel_rfl); have c7 := ev_get b7
              exact iv_val (v := .int .i64 rt) (by simp [execOp, b7]) ⟨_, rfl, whStep hj, trivial, rfl⟩
            · have b8 : a'.eval (.tmp 8) = .slice (some ⟨fb, fo, none⟩) n fc := hb' 8 (by kernel_rfl); have c8 := ev_get b8
              exact iv_val (v := .slice (some ⟨fb, fo, none⟩) n fc) (by simp [execOp, b8]) ⟨_, rfl, whStep hj, trivial, rfl⟩
            · have b5 : a'.eval (.tmp 5) = .pointer (some ⟨g, 0, none⟩) := hb' 5 (by kernel_rfl); have c5 := ev_get b5
              exact iv_val (v := .pointer (some ⟨g, 0, none⟩)) (by simp [execOp, b5]) ⟨_, rfl, whStep hj, trivial, rfl⟩
            · have b8 : a'.eval (.tmp 8) = .slice (some ⟨fb, fo, none⟩) n fc := hb' 8 (by kernel_rfl); have c8 := ev_get b8
              exact iv_val (v := .slice (some ⟨fb, fo, none⟩) n fc) (by simp [execOp, b8]) ⟨_, rfl, whStep hj, trivial, rfl⟩
            · have v4 : a'.eval (.tmp 41) = .slice (some ⟨fb, fo, none⟩) n fc := hd ⟨4, .data⟩ (by simp) rfl (by intro j _ hc; revert hc; unfold whCons; simp; try omega); have u4 := ev_get v4
              exact iv_val (v := .int .i64 n) (by simp [execOp, u4, go_sem, Result.andThen]) ⟨_, rfl, whStep hj, trivial, rfl⟩
            · have v3 : a'.eval (.tmp 40) = .pointer (some ⟨g, 0, none⟩) := hd ⟨3, .data⟩ (by simp) rfl (by intro j _ hc; revert hc; unfold whCons; simp; try omega); have u3 := ev_get v3
              have v5 : a'.eval (.tmp 42) = .int .i64 n := hd ⟨5, .data⟩ (by simp) rfl (by intro j _ hc; revert hc; unfold whCons; simp; try omega); have u5 := ev_get v5
              obtain ⟨p', hp', hr, hfm⟩ := hj
              have hq12 : qn < 12 := hnn
              refine iv_enter (f := 101) (args := #[.pointer (some ⟨g, 0, none⟩), .int .i64 n]) (by simp [execOp, u3, u5, go_sem]) ?_
              refine (spec_pick_c g p' l n wk hr (by omega)).mono ?_
              rintro e w9 ⟨x9, rfl, x90, x91, _, r9, g9⟩
              have x92 := x91 (by omega)
              exact ⟨_, rfl, _, rfl, ⟨p' + 1, by omega, r9, hfm.then' (Frm.of_grown g9 (fun b hb => (Option.some.inj hb).symm))⟩, trivial, (show isIx n _ w9 from ⟨x9, rfl, x90, x92⟩)⟩
            · have v2 : a'.eval (.tmp 39) = .slice (some ⟨fb, fo, none⟩) n fc := hd ⟨2, .data⟩ (by simp) rfl (by intro j _ hc; revert hc; unfold whCons; simp; try omega); have u2 := ev_get v2
              have e6 : isIx n (a'.eval (.tmp 43)) wk := hd ⟨6, .data⟩ (by simp) rfl (by intro j _ hc; revert hc; unfold whCons; simp; try omega)
              obtain ⟨x6, v6, x60, x61⟩ := e6
              have u6 := ev_get v6
              obtain ⟨i6, rfl⟩ : ∃ i6 : Nat, x6 = i6 := ⟨x6.toNat, by omega⟩
              exact iv_val (v := .pointer (some ⟨fb, fo + i6, none⟩)) (by simp [execOp, u2, u6, x61, go_sem, Result.andThen]) ⟨_, rfl, whStep hj, trivial, (show isFP fb fo n _ wk from ⟨i6, by omega, rfl⟩)⟩
            · have e7 : isFP fb fo n (a'.eval (.tmp 44)) wk := hd ⟨7, .data⟩ (by simp) rfl (by intro j _ hc; revert hc; unfold whCons; simp; try omega)
              obtain ⟨i7, hi7, v7⟩ := e7
              have u7 := ev_get v7
              obtain ⟨t7, ht7, hc7⟩ := HCE.out i7 hi7
              have x7 : wk.cell? ⟨fb, fo + i7, none⟩ = some (.string t7) := (by obtain ⟨_, _, _, hfm⟩ := hj; exact (World.cell?_of_block (a := ⟨fb, fo + i7, none⟩) (hfm.block fb hfbl hfbg)).trans hc7)
              exact iv_val (v := .string t7) (by simp [execOp, u7, x7, go_sem, Result.andThen]) ⟨_, rfl, whStep hj, trivial, (show isPS _ wk from ⟨t7, rfl, ht7⟩)⟩
            · have v0 : a'.eval (.tmp 37) = yv := hd ⟨0, .data⟩ (by simp) rfl (by intro j _ hc; revert hc; unfold whCons; simp; try omega); have u0 := ev_get v0
              exact iv_val (v := yv) (by simp [execOp, v0]) ⟨_, rfl, whStep hj, trivial, rfl⟩
            · have v1 : a'.eval (.tmp 38) = .int .i64 rt := hd ⟨1, .data⟩ (by simp) rfl (by intro j _ hc; revert hc; unfold whCons; simp; try omega); have u1 := ev_get v1
              exact iv_val (v := .int .i64 rt) (by simp [execOp, v1]) ⟨_, rfl, whStep hj, trivial, rfl⟩
            · have e8 : isPS (a'.eval (.tmp 45)) wk := hd ⟨8, .data⟩ (by simp) rfl (by intro j _ hc; revert hc; unfold whCons; simp; try omega)
              exact iv_val (v := a'.eval (.tmp 45)) (by simp [execOp]) ⟨_, rfl, whStep hj, trivial, e8⟩
          case fin =>
            intro tm w9 hj hF
            obtain ⟨p9, hp9, r9, fm9⟩ := hj
            have q2 : tm.getD 2 undef = yv := hF 9 _ rfl (fun j => rfl)
            have q3 : tm.getD 3 undef = .int .i64 rt := hF 10 _ rfl (fun j => rfl)
            have q4 : isPS (tm.getD 4 undef) w9 := hF 11 _ rfl (fun j => rfl)
            clear hF
            obtain ⟨s4, e4, hs4⟩ := q4
            simp only [refillL, List.setIfInBounds_toArray, List.set_cons_succ, List.set_cons_zero]
            rw [q2, q3, e4]
            have O9 := hid (OW.out.frm fm9 (fun b hb e => by have := (OW.out.lt b hb).1; omega))
            have d9 := DW.out.trans (fm9.below (B := g) (fun k hk => by omega) (Nat.le_of_lt HRW.out.lt))
            clear r9 fm9 q2 q3 e4
            go_wp2
            go_ret3
            have hge := HGG.out
            exact ⟨_, _, _, _, rfl, O9.out.less (by omega), HDY.out, hs4, (by rw [hge]; exact d9)⟩
        · have hxd : (x == 0) = false := by simp [hx0]
          clear hx0 x0 H7
          go_wp2_with fail
          refine (spec_l20Path_c g _ l 12 _ R7.out (by omega) (by omega) (by omega)).mono ?_
          rintro e w8 ⟨s8, p8, rfl, hs8, _, hp8, r8, g8⟩
          have O8 := hid (O7.out.far g8 (fun b hb => by simp at hb; omega))
          have d8 := D7.out.grown g8 (Nat.le_of_lt R7.out.lt) (fun b hb => by simp at hb; omega)
          clear r8 g8
          go_wp2
          go_ret3
          have hge := HGG.out
          exact ⟨_, _, _, _, rfl, O8.out.less (by omega), HDY.out, by omega, (by rw [hge]; exact d8)⟩
    · obtain ⟨W5, hW5⟩ : ∃ W5, W5 = w4.alloc (.cells #[.int .i64 (rx), .int .i64 354] 3) := ⟨_, rfl⟩
      have hb5 : Below w4.heap.size w4 W5 := by rw [hW5]; exact (Below.refl _ _).alloc (Nat.le_refl _) _
      have I5 : Hid (OwnI W5 w4.heap.size (.slice (some ⟨w4.heap.size, 0, none⟩) 2 2) [rx, 354]) := hid (by rw [hW5]; exact Own.lit _ (Nat.le_refl _) [_, _] _ 2 rfl rfl rfl (by decide))
      have R5 := hid (R4.out.on hb5)
      have O5 := hid (O4.out.on hb5)
      have D5 := hid (D4.out.trans (hb5.mono (Nat.le_of_lt R4.out.lt)))
      clear R4 O4 D4 hb5
      go_wp2_with fail
      rw [← hW5]
      refine (spec_SweepStore_c _ _ xs [rx, 354] _ (Rd.of_own O5.out) (Rd.of_own I5.out) HD.out.2.sizes2.1 HD.out.2.sizes2.2).mono ?_
      rintro e w5 ⟨yv, rfl, o5, b5⟩
      have R := hid (R5.out.on b5)
      have D := hid (D5.out.trans (b5.mono (Nat.le_of_lt R5.out.lt)))
      have hgW5 := R5.out.lt
      have OY := hid (o5.less (show g + 1 ≤ W5.heap.size by omega))
      obtain ⟨ys, hys⟩ : ∃ ys, sweepOf xs [rx, 354] = ys := ⟨_, rfl⟩
      rw [hys] at OY
      have HDY := hid (show DrawnH ys by rw [← hys]; exact drawn_sub HD.out.2 sweep_len (fun x hx => sweep_sub hx))
      clear hys o5 b5 R5 O5 D5 I5 hW5
      obtain ⟨rt, hrt⟩ : ∃ rt, rx = rt := ⟨_, rfl⟩
      rw [hrt]
      clear hrt
      obtain ⟨fs, hfs⟩ : ∃ fs, allFiles ys rt = fs := ⟨_, rfl⟩
      have HFS := hid hfs
      obtain ⟨n, hn⟩ : ∃ n, fs.length = n := ⟨_, rfl⟩
      have HN := hid hn
      have hn27 : n ≤ 27 := by rw [← hn, ← hfs]; exact allFiles_len _ _
      clear hfs hn
      go_wp2_with fail
      refine (spec_AllFiles_c _ ys rt _ (Rd.of_own OY.out) HDY.out.sizes2.1 HDY.out.sizes2.2).mono ?_
      rw [HFS.out]
      rintro e w6 ⟨fv, rfl, o6, b6⟩
      obtain ⟨fa, fc, rfl, _, _, h6⟩ := (Rd.of_own o6).strs HN.out
      have hlt6 := hid o6.lt
      have R6 := hid (R.out.on b6)
      have O6 := hid (OY.out.on b6)
      have D6 := hid (D.out.trans (b6.mono (Nat.le_of_lt R.out.lt)))
      have hgW := R.out.lt
      have H6 := hid h6
      clear o6 b6 h6 R OY D
      by_cases hn0 : n = 0
      · subst hn0
        go_wp2_with fail
        refine (spec_l20Path_c g _ l 12 _ R6.out (by omega) (by omega) (by omega)).mono ?_
        rintro e w8 ⟨s8, p8, rfl, hs8, _, hp8, r8, g8⟩
        have O8 := hid (O6.out.far g8 (fun b hb => by simp at hb; omega))
        have d8 := D6.out.grown g8 (Nat.le_of_lt R6.out.lt) (fun b hb => by simp at hb; omega)
        clear r8 g8
        go_wp2
        go_ret3
        have hge := HGG.out
        exact ⟨_, _, _, _, rfl, O8.out.less (by omega), HDY.out, by omega, (by rw [hge]; exact d8)⟩
      · have hnp : (0 : Int) < n := by omega
        go_wp2_with fail
        refine (spec_pick_c g _ l 2 _ R6.out (by omega)).mono ?_
        rintro e w7 ⟨x, rfl, x0, x3, _, r7, g7⟩
        obtain ⟨p7, hp7⟩ : ∃ p7, p4 + 1 = p7 := ⟨_, rfl⟩
        rw [hp7] at r7
        have R7 := hid r7
        have O7 := hid (O6.out.far g7 (fun b hb => by simp at hb; omega))
        have D7 := hid (D6.out.grown g7 (Nat.le_of_lt R6.out.lt) (fun b hb => by simp at hb; omega))
        have H7 := hid (show ∀ i, i < n → ∃ b o t, fa = some ⟨b, o, none⟩ ∧ b < w7.heap.size ∧ b ≠ g ∧ t.size ≤ 40 ∧ w7.cell? ⟨b, o + i, none⟩ = some (.string t) from fun i hi => by
          obtain ⟨b, o, t, ha, hb, hx, hc⟩ := H6.out i hi
          have hbg : b ≠ g := by have h5 := hlt6.out b (by rw [ha]; rfl); omega
          refine ⟨b, o, t, ha, Nat.lt_of_lt_of_le hb g7.size, hbg, files_path (by rw [HFS.out]; exact List.mem_of_getElem? hx.out), ?_⟩
          exact (World.cell?_of_block (a := ⟨b, o + i, none⟩) (g7.block b hb (fun e => hbg (Option.some.inj e)))).trans hc)
        clear r7 g7 H6 R6 O6 D6 x3
        by_cases hx0 : x = 0
        · have hxd : (x == 0) = true := by simp [hx0]
          clear hx0 x0
          obtain ⟨fb, fo, _, rfl, hfb7, hfbg0, _, _⟩ := H7.out 0 (by omega)
          go_wp2
          refine drew_out w7 ⟨0, rfl⟩ ?_
          rintro W0 ⟨z00, hW0⟩
          have hw0 : Below w7.heap.size w7 W0 := by rw [hW0]; exact bl_drewN (Below.refl _ _) z00
          have HRW := hid (R7.out.on hw0)
          have OW := hid (O7.out.on hw0)
          have DW := hid (D7.out.trans (hw0.mono (Nat.le_of_lt R7.out.lt)))
          have hfbl : fb < W0.heap.size := Nat.lt_of_lt_of_le hfb7 hw0.size
          have hfbg : ¬ (fb = g) := hfbg0
          have HCE := hid (show ∀ i, i < n → ∃ t : ByteArray, t.size ≤ 40 ∧ W0.cell? ⟨fb, fo + i, none⟩ = some (.string t) from fun i hi => by
            obtain ⟨b, o, t, ha, hb, _, ht, hc⟩ := H7.out i hi
            simp only [Option.some.injEq, Addr.mk.injEq, and_true] at ha
            obtain ⟨rfl, rfl⟩ := ha
            exact ⟨t, ht, (hw0.cell (p := ⟨fb, fo + i, none⟩) hb).trans hc⟩)
          clear hW0 hw0 H7 R7 O7 D7
          refine wp_region_inv3e rfl (by kernel_rfl) (by kernel_rfl) (by kernel_rfl) (by kernel_rfl) (by simp) (whJ g l p7 W0) (fun j w' w'' => True) (fact [isV yv, isV (.int .i64 rt), isV (.slice (some ⟨fb, fo, none⟩) n fc), isV (.pointer (some ⟨g, 0, none⟩)), isV (.slice (some ⟨fb, fo, none⟩) n fc), isV (.int .i64 n), isIx n, isFP fb fo n, isPS, isV yv, isV (.int .i64 rt), isPS]) whCons ⟨p7, by omega, HRW.out.drewR, Frm.of_below (bl_drewN (Below.refl _ _) 1)⟩ ?hF ?grd ?oo ?cg ?fin
          case hF =>
            intro j i v w' w'' hS hc hne hwt hdp hf
            have hi : i < 12 ∨ 12 ≤ i := by omega
            rcases hi with hi | hi
            · obtain rfl | rfl | rfl | rfl | rfl | rfl | rfl | rfl | rfl | rfl | rfl | rfl : i = 0 ∨ i = 1 ∨ i = 2 ∨ i = 3 ∨ i = 4 ∨ i = 5 ∨ i = 6 ∨ i = 7 ∨ i = 8 ∨ i = 9 ∨ i = 10 ∨ i = 11 := by omega
              · exact hf
              · exact hf
              · exact hf
              · exact hf
              · exact hf
              · exact hf
              · exact hf
              · exact hf
              · exact hf
              · exact hf
              · exact hf
              · exact hf
            · unfold fact at *; rw [List.getD_eq_getElem?_getD, List.getElem?_eq_none (by simpa using hi)]; trivial
          case grd =>
            intro i oo d bb hi hg v w' hf
            obtain ⟨hlt1, rfl⟩ := Array.getElem?_eq_some_iff.1 hi
            have hlt' : i < 12 := hlt1
            clear hi
            obtain rfl | rfl | rfl | rfl | rfl | rfl | rfl | rfl | rfl | rfl | rfl | rfl : i = 0 ∨ i = 1 ∨ i = 2 ∨ i = 3 ∨ i = 4 ∨ i = 5 ∨ i = 6 ∨ i = 7 ∨ i = 8 ∨ i = 9 ∨ i = 10 ∨ i = 11 := by omega
            all_goals simp at hg
          case cg =>
            intro i oo d bb hi hg j
            obtain ⟨hlt1, rfl⟩ := Array.getElem?_eq_some_iff.1 hi
            have hlt' : i < 12 := hlt1
            clear hi
            obtain rfl | rfl | rfl | rfl | rfl | rfl | rfl | rfl | rfl | rfl | rfl | rfl : i = 0 ∨ i = 1 ∨ i = 2 ∨ i = 3 ∨ i = 4 ∨ i = 5 ∨ i = 6 ∨ i = 7 ∨ i = 8 ∨ i = 9 ∨ i = 10 ∨ i = 11 := by omega
            all_goals simp at hg
          case oo =>
            intro i oo hi qn a' wk hnn hj hb' hd
            obtain ⟨hlt1, rfl⟩ := Array.getElem?_eq_some_iff.1 hi
            have hlt' : i < 12 := hlt1
            clear hi
            obtain rfl | rfl | rfl | rfl | rfl | rfl | rfl | rfl | rfl | rfl | rfl | rfl : i = 0 ∨ i = 1 ∨ i = 2 ∨ i = 3 ∨ i = 4 ∨ i = 5 ∨ i = 6 ∨ i = 7 ∨ i = 8 ∨ i = 9 ∨ i = 10 ∨ i = 11 := by omega
            · have b6 : a'.eval (.tmp 6) = yv := hb' 6 (by kernel_rfl); have c6 := ev_get b6
              exact iv_val (v := yv) (by simp [execOp, b6]) ⟨_, rfl, whStep hj, trivial, rfl⟩
            · have b7 : a'.eval (.tmp 7) = .int .i64 rt := hb' 7 (by kernel_rfl); have c7 := ev_get b7
              exact iv_val (v := .int .i64 rt) (by simp [execOp, b7]) ⟨_, rfl, whStep hj, trivial, rfl⟩
            · have b8 : a'.eval (.tmp 8) = .slice (some ⟨fb, fo, none⟩) n fc := hb' 8 (by kernel_rfl); have c8 := ev_get b8
              exact iv_val (v := .slice (some ⟨fb, fo, none⟩) n fc) (by simp [execOp, b8]) ⟨_, rfl, whStep hj, trivial, rfl⟩
            · have b5 : a'.eval (.tmp 5) = .pointer (some ⟨g, 0, none⟩) := hb' 5 (by kernel_rfl); have c5 := ev_get b5
              exact iv_val (v := .pointer (some ⟨g, 0, none⟩)) (by simp [execOp, b5]) ⟨_, rfl, whStep hj, trivial, rfl⟩
            · have b8 : a'.eval (.tmp 8) = .slice (some ⟨fb, fo, none⟩) n fc := hb' 8 (by kernel_rfl); have c8 := ev_get b8
              exact iv_val (v := .slice (some ⟨fb, fo, none⟩) n fc) (by simp [execOp, b8]) ⟨_, rfl, whStep hj, trivial, rfl⟩
            · have v4 : a'.eval (.tmp 41) = .slice (some ⟨fb, fo, none⟩) n fc := hd ⟨4, .data⟩ (by simp) rfl (by intro j _ hc; revert hc; unfold whCons; simp; try omega); have u4 := ev_get v4
              exact iv_val (v := .int .i64 n) (by simp [execOp, u4, go_sem, Result.andThen]) ⟨_, rfl, whStep hj, trivial, rfl⟩
            · have v3 : a'.eval (.tmp 40) = .pointer (some ⟨g, 0, none⟩) := hd ⟨3, .data⟩ (by simp) rfl (by intro j _ hc; revert hc; unfold whCons; simp; try omega); have u3 := ev_get v3
              have v5 : a'.eval (.tmp 42) = .int .i64 n := hd ⟨5, .data⟩ (by simp) rfl (by intro j _ hc; revert hc; unfold whCons; simp; try omega); have u5 := ev_get v5
              obtain ⟨p', hp', hr, hfm⟩ := hj
              have hq12 : qn < 12 := hnn
              refine iv_enter (f := 101) (args := #[.pointer (some ⟨g, 0, none⟩), .int .i64 n]) (by simp [execOp, u3, u5, go_sem]) ?_
              refine (spec_pick_c g p' l n wk hr (by omega)).mono ?_
              rintro e w9 ⟨x9, rfl, x90, x91, _, r9, g9⟩
              have x92 := x91 (by omega)
              exact ⟨_, rfl, _, rfl, ⟨p' + 1, by omega, r9, hfm.then' (Frm.of_grown g9 (fun b hb => (Option.some.inj hb).symm))⟩, trivial, (show isIx n _ w9 from ⟨x9, rfl, x90, x92⟩)⟩
            · have v2 : a'.eval (.tmp 39) = .slice (some ⟨fb, fo, none⟩) n fc := hd ⟨2, .data⟩ (by simp) rfl (by intro j _ hc; revert hc; unfold whCons; simp; try omega); have u2 := ev_get v2
              have e6 : isIx n (a'.eval (.tmp 43)) wk := hd ⟨6, .data⟩ (by simp) rfl (by intro j _ hc; revert hc; unfold whCons; simp; try omega)
              obtain ⟨x6, v6, x60, x61⟩ := e6
              have u6 := ev_get v6
              obtain ⟨i6, rfl⟩ : ∃ i6 : Nat, x6 = i6 := ⟨x6.toNat, by omega⟩
              exact iv_val (v := .pointer (some ⟨fb, fo + i6, none⟩)) (by simp [execOp, u2, u6, x61, go_sem, Result.andThen]) ⟨_, rfl, whStep hj, trivial, (show isFP fb fo n _ wk from ⟨i6, by omega, rfl⟩)⟩
            · have e7 : isFP fb fo n (a'.eval (.tmp 44)) wk := hd ⟨7, .data⟩ (by simp) rfl (by intro j _ hc; revert hc; unfold whCons; simp; try omega)
              obtain ⟨i7, hi7, v7⟩ := e7
              have u7 := ev_get v7
              obtain ⟨t7, ht7, hc7⟩ := HCE.out i7 hi7
              have x7 : wk.cell? ⟨fb, fo + i7, none⟩ = some (.string t7) := (by obtain ⟨_, _, _, hfm⟩ := hj; exact (World.cell?_of_block (a := ⟨fb, fo + i7, none⟩) (hfm.block fb hfbl hfbg)).trans hc7)
              exact iv_val (v := .string t7) (by simp [execOp, u7, x7, go_sem, Result.andThen]) ⟨_, rfl, whStep hj, trivial, (show isPS _ wk from ⟨t7, rfl, ht7⟩)⟩
            · have v0 : a'.eval (.tmp 37) = yv := hd ⟨0, .data⟩ (by simp) rfl (by intro j _ hc; revert hc; unfold whCons; simp; try omega); have u0 := ev_get v0
              exact iv_val (v := yv) (by simp [execOp, v0]) ⟨_, rfl, whStep hj, trivial, rfl⟩
            · have v1 : a'.eval (.tmp 38) = .int .i64 rt := hd ⟨1, .data⟩ (by simp) rfl (by intro j _ hc; revert hc; unfold whCons; simp; try omega); have u1 := ev_get v1
              exact iv_val (v := .int .i64 rt) (by simp [execOp, v1]) ⟨_, rfl, whStep hj, trivial, rfl⟩
            · have e8 : isPS (a'.eval (.tmp 45)) wk := hd ⟨8, .data⟩ (by simp) rfl (by intro j _ hc; revert hc; unfold whCons; simp; try omega)
              exact iv_val (v := a'.eval (.tmp 45)) (by simp [execOp]) ⟨_, rfl, whStep hj, trivial, e8⟩
          case fin =>
            intro tm w9 hj hF
            obtain ⟨p9, hp9, r9, fm9⟩ := hj
            have q2 : tm.getD 2 undef = yv := hF 9 _ rfl (fun j => rfl)
            have q3 : tm.getD 3 undef = .int .i64 rt := hF 10 _ rfl (fun j => rfl)
            have q4 : isPS (tm.getD 4 undef) w9 := hF 11 _ rfl (fun j => rfl)
            clear hF
            obtain ⟨s4, e4, hs4⟩ := q4
            simp only [refillL, List.setIfInBounds_toArray, List.set_cons_succ, List.set_cons_zero]
            rw [q2, q3, e4]
            have O9 := hid (OW.out.frm fm9 (fun b hb e => by have := (OW.out.lt b hb).1; omega))
            have d9 := DW.out.trans (fm9.below (B := g) (fun k hk => by omega) (Nat.le_of_lt HRW.out.lt))
            clear r9 fm9 q2 q3 e4
            go_wp2
            go_ret3
            have hge := HGG.out
            exact ⟨_, _, _, _, rfl, O9.out.less (by omega), HDY.out, hs4, (by rw [hge]; exact d9)⟩
        · have hxd : (x == 0) = false := by simp [hx0]
          clear hx0 x0 H7
          go_wp2_with fail
          refine (spec_l20Path_c g _ l 12 _ R7.out (by omega) (by omega) (by omega)).mono ?_
          rintro e w8 ⟨s8, p8, rfl, hs8, _, hp8, r8, g8⟩
          have O8 := hid (O7.out.far g8 (fun b hb => by simp at hb; omega))
          have d8 := D7.out.grown g8 (Nat.le_of_lt R7.out.lt) (fun b hb => by simp at hb; omega)
          clear r8 g8
          go_wp2
          go_ret3
          have hge := HGG.out
          exact ⟨_, _, _, _, rfl, O8.out.less (by omega), HDY.out, by omega, (by rw [hge]; exact d8)⟩

set_option maxHeartbeats 2000000 in
set_option maxRecDepth 100000 in
theorem spec_DrawDropAt_c (v : Value) (l : List Int) (w : World) (h : Rd encU 1 w w.heap.size v l) (hl : ∀ x ∈ l, 0 ≤ x ∧ x ≤ 255) :
    Calls Tryz.prog 42 #[v] w (WhereB w) := by
  go_enter Tryz.func42, Tryz.ntmps42
  go_wp2_with fail
  refine (spec_l20Where_c v l w h hl).mono ?_
  rintro e w1 ⟨u, xs, root, path, rfl, o, hd, hp, b⟩
  go_wp2
  go_ret3
  exact ⟨_, xs, root, path, rfl, o, hd, hp, b⟩

end Go.Proofs.YtachfmlfmpaddaaGreatDoor
