/- Walks and plain facts, joined: KeepW, DrawWr. -/
import Derived.Test.YtnaahincolooeaaGreatDoorMg30
import Derived.Test.YtnaahincolooeaaGreatDoorMg37
import Derived.Test.YtnaahincolooeaaGreatDoorMg40
set_option linter.unusedVariables false
set_option linter.unusedSimpArgs false

/- Walks: what keeps files, as the laws ask it. -/
namespace Go.Proofs.YtnaahincolooeaaGreatDoor
open Go.RowKit

set_option maxHeartbeats 2000000 in
set_option maxRecDepth 100000 in
theorem laws_keepsFiles_c (v u : Value) (s x : List Pc) (root : Int) (w : World) (H : Keeps s x root) (h : Pcs w w.heap.size v s) (h' : Pcs w w.heap.size u x) (hg : Glob w) (hm : Mx w) :
    Calls Tryz.prog 22 #[v, u, .int .i64 root] w fun e w' => e = .returned (.bool true) ∧ Below w.heap.size w w' := by
  have HP : Hid (∀ wx, Below w.heap.size w wx → Pcs wx wx.heap.size v s) := hid fun wx hx => h.on hx
  have HU : Hid (∀ wx, Below w.heap.size w wx → Pcs wx wx.heap.size u x) := hid fun wx hx => h'.on hx
  have HG : Hid (∀ wx, Below w.heap.size w wx → Glob wx) := hid fun wx hx => hg.on hx
  have HM : Hid (∀ wx, Below w.heap.size w wx → Mx wx) := hid fun wx hx => hm.on hx
  have HK := hid H
  have r0 : Below w.heap.size w w := Below.refl _ _
  obtain ⟨fs, hfs⟩ : ∃ fs, allFiles s root = fs := ⟨_, rfl⟩
  have HFS := hid hfs
  obtain ⟨n, hn⟩ : ∃ n, fs.length = n := ⟨_, rfl⟩
  have HN := hid hn
  have hn27 : n ≤ 27 := by rw [← hn, ← hfs]; exact allFiles_len _ _
  clear h h' hg hm hfs hn H
  go_enter Tryz.func22, Tryz.ntmps22
  go_wp2_with fail
  refine (impl_AllFiles_c _ s root _ (HP.out _ r0) (HG.out _ r0)).mono ?_
  rw [HFS.out]
  rintro e w1 ⟨fv, rfl, o1, b1⟩
  obtain ⟨fa, fc, rfl, _, _, h3⟩ := (Rd.of_own o1).strs HN.out
  have H3 := hid h3
  have B1 := hid b1
  clear o1 h3 b1
  go_wp2
  go_loopw [8, 9, 10, 11, 12] (fun kv _ _ _ _ wr => ∃ k : Nat, k ≤ n ∧ kv = .int .i64 k ∧ Below w1.heap.size w1 wr) (fun kv _ _ _ _ _ => n - (intOf kv).toNat)
  case atStart => exact ⟨0, Nat.zero_le _, rfl, Below.refl _ _⟩
  case round =>
    obtain ⟨k, hk, rfl, hb⟩ := hrel
    by_cases hlt : k < n
    · obtain ⟨b, o, p, rfl, hbl, hx, k0⟩ := H3.out k hlt
      have j0 := (hb.cell (p := ⟨b, o + k, none⟩) hbl).trans k0
      have hkn : (k : Int) < n := by omega
      have hmem : p ∈ allFiles s root := by rw [HFS.out]; exact List.mem_of_getElem? hx.out
      have hps : p.size ≤ 1000 := by have := files_path hmem; omega
      obtain ⟨k1, k2⟩ := HK.out p hmem
      obtain ⟨⟨A, fa1⟩, hA⟩ : ∃ R, readAt s root (bs p) = R := ⟨_, rfl⟩
      obtain ⟨⟨C, fc1⟩, hC⟩ : ∃ R, readAt x root (bs p) = R := ⟨_, rfl⟩
      rw [hC] at k1 k2
      rw [hA] at k2
      obtain rfl : fc1 = true := k1
      obtain rfl : C = A := k2
      have HA := hid hA
      have HC := hid hC
      have HBL := hid hbl
      have HK0 := hid k0
      clear hA hC k0 hmem
      go_wp2_with fail
      refine (impl_ReadAt_c _ s root p _ (HP.out _ (bl_then B1.out hb)) hps (HG.out _ (bl_then B1.out hb)) (HM.out _ (bl_then B1.out hb))).mono ?_
      rw [HA.out]
      rintro e w2 ⟨rfl, b2⟩
      have d2 := bl_then hb b2
      have j2 := (d2.cell (p := ⟨b, o + k, none⟩) HBL.out).trans HK0.out
      clear b2 j0
      go_wp2_with fail
      refine (impl_ReadAt_c _ x root p _ (HU.out _ (bl_then B1.out d2)) hps (HG.out _ (bl_then B1.out d2)) (HM.out _ (bl_then B1.out d2))).mono ?_
      rw [HC.out]
      rintro e w3 ⟨rfl, b3⟩
      have d3 := bl_then d2 b3
      clear b3 j2
      go_wp2
      go_roundw
      case rel => exact ⟨k + 1, by omega, by go_num, d3⟩
      case measure => simp [intOf]; omega
    · have d9 := bl_then B1.out hb
      go_wp2
      go_ret
      exact ⟨rfl, d9⟩

end Go.Proofs.YtnaahincolooeaaGreatDoor

/- Walks: drawn writes. -/
namespace Go.Proofs.YtnaahincolooeaaGreatDoor
open Go.RowKit

theorem results_tmp4' {fn : Func} {t u v x : Tmp} (h : fn.results = #[.tmp t, .tmp u, .tmp v, .tmp x]) (tmps : Array Value) (P : Program) (w : World) :
    (results fn tmps).run P w = .ok (.tuple #[tmps.getD t undef, tmps.getD u undef, tmps.getD v undef, tmps.getD x undef]) w := by
  simp [results, h]
def isST : Value → World → Prop := fun v _ => ∃ s : ByteArray, v = .string s ∧ s.size ≤ 100
def isL3 (g : Nat) : Value → World → Prop := fun v w => ∃ (b : Nat) (x y z : ByteArray), v = .slice (some ⟨b, 0, none⟩) 3 3 ∧ ¬ (b = g) ∧ w.heap[b]? = some (.cells #[.string x, .string y, .string z] 9 (0, 0)) ∧ x.size ≤ 100 ∧ y.size ≤ 100 ∧ z.size ≤ 100
def isP3 (g : Nat) : Value → World → Prop := fun v w => ∃ (b i : Nat) (x y z : ByteArray), v = .pointer (some ⟨b, i, none⟩) ∧ i < 3 ∧ ¬ (b = g) ∧ w.heap[b]? = some (.cells #[.string x, .string y, .string z] 9 (0, 0)) ∧ x.size ≤ 100 ∧ y.size ≤ 100 ∧ z.size ≤ 100
theorem three_cell {w : World} {b i : Nat} {x y z : ByteArray} (hi : i < 3) (h : w.heap[b]? = some (.cells #[.string x, .string y, .string z] 9 (0, 0))) (hx : x.size ≤ 100) (hy : y.size ≤ 100) (hz : z.size ≤ 100) : ∃ s : ByteArray, s.size ≤ 100 ∧ w.cell? ⟨b, i, none⟩ = some (.string s) := by
  obtain rfl | rfl | rfl : i = 0 ∨ i = 1 ∨ i = 2 := by omega
  · exact ⟨x, hx, by simp [World.cell?, h]⟩
  · exact ⟨y, hy, by simp [World.cell?, h]⟩
  · exact ⟨z, hz, by simp [World.cell?, h]⟩
theorem cont_size {s : ByteArray} (h : contS s = true) : s.size ≤ 100 := by
  unfold contS at h
  rw [Bool.and_eq_true, decide_eq_true_eq] at h
  omega

def dwJ (g : Nat) (l : List Int) (W0 : World) (n : Nat) (w : World) : Prop := ∃ p', p' ≤ 2 * n ∧ Reader w g l p' ∧ Frm (fun k => k = g) W0 w

theorem dwStep {g : Nat} {l : List Int} {n : Nat} {W0 w : World} (h : dwJ g l W0 n w) : dwJ g l W0 (n + 1) w := by
  obtain ⟨p', h1, h2, h3⟩ := h
  exact ⟨p', by omega, h2, h3⟩

/-- A drawn store, a root, a path and a content. -/
def WriteB (w : World) (e : Ending) (w' : World) : Prop := ∃ (v : Value) (xs : List Pc) (root : Int) (path content : ByteArray), e = .returned (.tuple #[v, .int .i64 root, .string path, .string content]) ∧ OwnP w' w.heap.size v xs ∧ DrawnH xs ∧ path.size ≤ 40 ∧ content.size ≤ 1000 ∧ Below w.heap.size w w'

set_option maxHeartbeats 2000000 in
set_option maxRecDepth 100000 in
theorem spec_DrawWriteAt_c (v : Value) (l0 : List Int) (w : World) (h : Rd encU 1 w w.heap.size v l0) (hl : ∀ x ∈ l0, 0 ≤ x ∧ x ≤ 255) :
    Calls Tryz.prog 25 #[v] w (WriteB w) := by
  unfold WriteB
  have HV := hid h
  have HL0 := hid hl
  go_enter Tryz.func25, Tryz.ntmps25
  go_wp2_with fail
  refine (spec_l20Where_c v l0 w h hl).mono ?_
  rintro e w1 ⟨sv, xs, root, path, rfl, o1, hd, hps, b1⟩
  have S1 := hid o1
  have HD := hid hd
  have hlt1 := hid o1.lt
  clear o1 hd h hl
  go_wp2_with fail
  refine (spec_l20Open_c v l0 w1 (HV.out.on b1) HL0.out).mono ?_
  rintro e w2 ⟨l, rfl, r2, b2⟩
  obtain ⟨g, hg⟩ : ∃ g, w1.heap.size = g := ⟨_, rfl⟩
  have HSB := hid (show ∀ b, sv.ownBlock = some b → b < g from fun b hb => by rw [← hg]; exact (hlt1.out b hb).2)
  rw [hg] at r2
  rw [hg]
  have R2 := hid r2
  have S2 := hid (S1.out.on b2)
  have D2 := hid (bl_then b1 b2)
  have hgw : w.heap.size ≤ g := by rw [← hg]; exact b1.size
  have hg2 : g < w2.heap.size := r2.lt
  clear r2 b1 b2 S1 hg
  go_wp2
  refine drew_out w2 ⟨0, rfl⟩ ?_
  rintro W0 ⟨z00, hW0⟩
  have hw0 : Below w2.heap.size w2 W0 := by rw [hW0]; exact bl_drewN (Below.refl _ _) z00
  have HRW := hid (R2.out.on hw0)
  have OW := hid (S2.out.on hw0)
  have DW := hid (bl_then D2.out hw0)
  clear hW0 hw0 R2 S2 D2
  refine wp_region_inv3e rfl (by kernel_rfl) (by kernel_rfl) (by kernel_rfl) (by kernel_rfl) (by simp) (dwJ g l W0) (fun j w' w'' => w' = w'' ∨ Frm (fun k => k = g) w' w'') (fact [isV sv, isV (.int .i64 root), isV (.string path), isV (.pointer (some ⟨g, 0, none⟩)), isST, isV (.pointer (some ⟨g, 0, none⟩)), isST, isV (.pointer (some ⟨g, 0, none⟩)), isST, isL3 g, isV (.pointer (some ⟨g, 0, none⟩)), isIx 3, isP3 g, isST, isV sv, isV (.int .i64 root), isV (.string path), isST]) whCons ⟨0, by omega, HRW.out.drewR, Frm.of_below (bl_drewN (Below.refl _ _) 1)⟩ ?hF ?grd ?oo ?cg ?fin
  case hF =>
    intro j i v w' w'' hS hc hne hwt hdp hf
    have hi : i < 18 ∨ 18 ≤ i := by omega
    rcases hi with hi | hi
    · obtain rfl | rfl | rfl | rfl | rfl | rfl | rfl | rfl | rfl | rfl | rfl | rfl | rfl | rfl | rfl | rfl | rfl | rfl : i = 0 ∨ i = 1 ∨ i = 2 ∨ i = 3 ∨ i = 4 ∨ i = 5 ∨ i = 6 ∨ i = 7 ∨ i = 8 ∨ i = 9 ∨ i = 10 ∨ i = 11 ∨ i = 12 ∨ i = 13 ∨ i = 14 ∨ i = 15 ∨ i = 16 ∨ i = 17 := by omega
      · exact hf
      · exact hf
      · exact hf
      · exact hf
      · exact hf
      · exact hf
      · exact hf
      · exact hf
      · exact hf
      · rcases hS with rfl | hf9
        · exact hf
        · obtain ⟨b9, s4, s6, s8, h1, h2, h3, h4⟩ := hf; exact ⟨b9, s4, s6, s8, h1, h2, (hf9.block b9 (Array.getElem?_eq_some_iff.1 h3).1 h2).trans h3, h4⟩
      · exact hf
      · exact hf
      · rcases hS with rfl | hf9
        · exact hf
        · obtain ⟨b9, i6, s4, s6, s8, h1, h0, h2, h3, h4⟩ := hf; exact ⟨b9, i6, s4, s6, s8, h1, h0, h2, (hf9.block b9 (Array.getElem?_eq_some_iff.1 h3).1 h2).trans h3, h4⟩
      · exact hf
      · exact hf
      · exact hf
      · exact hf
      · exact hf
    · unfold fact at *; rw [List.getD_eq_getElem?_getD, List.getElem?_eq_none (by simpa using hi)]; trivial
  case grd =>
    intro i oo d bb hi hg v w' hf
    obtain ⟨hlt1, rfl⟩ := Array.getElem?_eq_some_iff.1 hi
    have hlt' : i < 18 := hlt1
    clear hi
    obtain rfl | rfl | rfl | rfl | rfl | rfl | rfl | rfl | rfl | rfl | rfl | rfl | rfl | rfl | rfl | rfl | rfl | rfl : i = 0 ∨ i = 1 ∨ i = 2 ∨ i = 3 ∨ i = 4 ∨ i = 5 ∨ i = 6 ∨ i = 7 ∨ i = 8 ∨ i = 9 ∨ i = 10 ∨ i = 11 ∨ i = 12 ∨ i = 13 ∨ i = 14 ∨ i = 15 ∨ i = 16 ∨ i = 17 := by omega
    all_goals simp at hg
  case cg =>
    intro i oo d bb hi hg j
    obtain ⟨hlt1, rfl⟩ := Array.getElem?_eq_some_iff.1 hi
    have hlt' : i < 18 := hlt1
    clear hi
    obtain rfl | rfl | rfl | rfl | rfl | rfl | rfl | rfl | rfl | rfl | rfl | rfl | rfl | rfl | rfl | rfl | rfl | rfl : i = 0 ∨ i = 1 ∨ i = 2 ∨ i = 3 ∨ i = 4 ∨ i = 5 ∨ i = 6 ∨ i = 7 ∨ i = 8 ∨ i = 9 ∨ i = 10 ∨ i = 11 ∨ i = 12 ∨ i = 13 ∨ i = 14 ∨ i = 15 ∨ i = 16 ∨ i = 17 := by omega
    all_goals simp at hg
  case oo =>
    intro i oo hi qn a' wk hnn hj hb' hd
    obtain ⟨hlt1, rfl⟩ := Array.getElem?_eq_some_iff.1 hi
    have hlt' : i < 18 := hlt1
    clear hi
    obtain rfl | rfl | rfl | rfl | rfl | rfl | rfl | rfl | rfl | rfl | rfl | rfl | rfl | rfl | rfl | rfl | rfl | rfl : i = 0 ∨ i = 1 ∨ i = 2 ∨ i = 3 ∨ i = 4 ∨ i = 5 ∨ i = 6 ∨ i = 7 ∨ i = 8 ∨ i = 9 ∨ i = 10 ∨ i = 11 ∨ i = 12 ∨ i = 13 ∨ i = 14 ∨ i = 15 ∨ i = 16 ∨ i = 17 := by omega
    · have b6 : a'.eval (.tmp 6) = sv := hb' 6 (by kernel_rfl); have c6 := ev_get b6
      exact iv_val (v := sv) (by simp [execOp, b6]) ⟨_, rfl, dwStep hj, .inl rfl, rfl⟩
    · have b7 : a'.eval (.tmp 7) = .int .i64 root := hb' 7 (by kernel_rfl); have c7 := ev_get b7
      exact iv_val (v := .int .i64 root) (by simp [execOp, b7]) ⟨_, rfl, dwStep hj, .inl rfl, rfl⟩
    · have b8 : a'.eval (.tmp 8) = .string path := hb' 8 (by kernel_rfl); have c8 := ev_get b8
      exact iv_val (v := .string path) (by simp [execOp, b8]) ⟨_, rfl, dwStep hj, .inl rfl, rfl⟩
    · have b9 : a'.eval (.tmp 9) = .pointer (some ⟨g, 0, none⟩) := hb' 9 (by kernel_rfl); have c9 := ev_get b9
      exact iv_val (v := .pointer (some ⟨g, 0, none⟩)) (by simp [execOp, b9]) ⟨_, rfl, dwStep hj, .inl rfl, rfl⟩
    · have v3 : a'.eval (.tmp 21) = .pointer (some ⟨g, 0, none⟩) := hd ⟨3, .data⟩ (by simp) rfl (by intro j _ hc; revert hc; unfold whCons; simp; try omega); have u3 := ev_get v3
      obtain ⟨p', hp', hr, hfm⟩ := hj
      have hq18 : qn < 18 := hnn
      refine iv_enter (f := 76) (args := #[.pointer (some ⟨g, 0, none⟩)]) (by simp [execOp, u3, go_sem]) ?_
      refine (spec_l20Content_c g p' l wk hr (by omega)).mono ?_
      rintro e w9 ⟨s9, rfl, hs9, r9, g9⟩
      exact ⟨_, rfl, _, rfl, ⟨_, by omega, r9, hfm.then' (Frm.of_grown g9 (fun b hb => (Option.some.inj hb).symm))⟩, .inr (Frm.of_grown g9 (fun b hb => (Option.some.inj hb).symm)), (show isST _ w9 from ⟨s9, rfl, cont_size hs9⟩)⟩
    · have b9 : a'.eval (.tmp 9) = .pointer (some ⟨g, 0, none⟩) := hb' 9 (by kernel_rfl); have c9 := ev_get b9
      exact iv_val (v := .pointer (some ⟨g, 0, none⟩)) (by simp [execOp, b9]) ⟨_, rfl, dwStep hj, .inl rfl, rfl⟩
    · have v5 : a'.eval (.tmp 23) = .pointer (some ⟨g, 0, none⟩) := hd ⟨5, .data⟩ (by simp) rfl (by intro j _ hc; revert hc; unfold whCons; simp; try omega); have u5 := ev_get v5
      obtain ⟨p', hp', hr, hfm⟩ := hj
      have hq18 : qn < 18 := hnn
      refine iv_enter (f := 76) (args := #[.pointer (some ⟨g, 0, none⟩)]) (by simp [execOp, u5, go_sem]) ?_
      refine (spec_l20Content_c g p' l wk hr (by omega)).mono ?_
      rintro e w9 ⟨s9, rfl, hs9, r9, g9⟩
      exact ⟨_, rfl, _, rfl, ⟨_, by omega, r9, hfm.then' (Frm.of_grown g9 (fun b hb => (Option.some.inj hb).symm))⟩, .inr (Frm.of_grown g9 (fun b hb => (Option.some.inj hb).symm)), (show isST _ w9 from ⟨s9, rfl, cont_size hs9⟩)⟩
    · have b9 : a'.eval (.tmp 9) = .pointer (some ⟨g, 0, none⟩) := hb' 9 (by kernel_rfl); have c9 := ev_get b9
      exact iv_val (v := .pointer (some ⟨g, 0, none⟩)) (by simp [execOp, b9]) ⟨_, rfl, dwStep hj, .inl rfl, rfl⟩
    · have v7 : a'.eval (.tmp 25) = .pointer (some ⟨g, 0, none⟩) := hd ⟨7, .data⟩ (by simp) rfl (by intro j _ hc; revert hc; unfold whCons; simp; try omega); have u7 := ev_get v7
      obtain ⟨p', hp', hr, hfm⟩ := hj
      have hq18 : qn < 18 := hnn
      refine iv_enter (f := 77) (args := #[.pointer (some ⟨g, 0, none⟩), .int .i64 2]) (by simp [execOp, u7, go_sem]) ?_
      refine (spec_l20Text_c g p' l 2 wk hr (by omega) (by omega) (by omega)).mono ?_
      rintro e w9 ⟨s9, p9, rfl, hs9, hp9, r9, g9⟩
      exact ⟨_, rfl, _, rfl, ⟨_, by omega, r9, hfm.then' (Frm.of_grown g9 (fun b hb => (Option.some.inj hb).symm))⟩, .inr (Frm.of_grown g9 (fun b hb => (Option.some.inj hb).symm)), (show isST _ w9 from ⟨s9, rfl, by omega⟩)⟩
    · have e4 : isST (a'.eval (.tmp 22)) wk := hd ⟨4, .data⟩ (by simp) rfl (by intro j _ hc; revert hc; unfold whCons; simp; try omega)
      have e6 : isST (a'.eval (.tmp 24)) wk := hd ⟨6, .data⟩ (by simp) rfl (by intro j _ hc; revert hc; unfold whCons; simp; try omega)
      have e8 : isST (a'.eval (.tmp 26)) wk := hd ⟨8, .data⟩ (by simp) rfl (by intro j _ hc; revert hc; unfold whCons; simp; try omega)
      obtain ⟨s4, v4, hs4⟩ := e4
      obtain ⟨s6, v6, hs6⟩ := e6
      obtain ⟨s8, v8, hs8⟩ := e8
      have u4 := ev_get v4
      have u6 := ev_get v6
      have u8 := ev_get v8
      obtain ⟨p', hp', hr, hfm⟩ := hj
      have hb9 := (Below.refl wk.heap.size wk).alloc (Nat.le_refl _) (.cells #[.string s4, .string s6, .string s8] 9)
      exact iv_val (v := .slice (some ⟨wk.heap.size, 0, none⟩) 3 3) (w' := wk.alloc (.cells #[.string s4, .string s6, .string s8] 9)) (by simp [execOp, u4, u6, u8, go_sem, Result.andThen]) ⟨_, rfl, ⟨p', by omega, hr.alloc _, hfm.then hb9⟩, .inr (Frm.of_below hb9), (show isL3 g _ _ from ⟨wk.heap.size, s4, s6, s8, rfl, (fun e => by have := hr.lt; omega), heap_alloc_new _ _, hs4, hs6, hs8⟩)⟩
    · have b9 : a'.eval (.tmp 9) = .pointer (some ⟨g, 0, none⟩) := hb' 9 (by kernel_rfl); have c9 := ev_get b9
      exact iv_val (v := .pointer (some ⟨g, 0, none⟩)) (by simp [execOp, b9]) ⟨_, rfl, dwStep hj, .inl rfl, rfl⟩
    · have v10 : a'.eval (.tmp 28) = .pointer (some ⟨g, 0, none⟩) := hd ⟨10, .data⟩ (by simp) rfl (by intro j _ hc; revert hc; unfold whCons; simp; try omega); have u10 := ev_get v10
      obtain ⟨p', hp', hr, hfm⟩ := hj
      have hq18 : qn < 18 := hnn
      refine iv_enter (f := 78) (args := #[.pointer (some ⟨g, 0, none⟩), .int .i64 3]) (by simp [execOp, u10, go_sem]) ?_
      refine (spec_pick_c g p' l 3 wk hr (by omega)).mono ?_
      rintro e w9 ⟨x9, rfl, x90, x91, _, r9, g9⟩
      have x92 := x91 (by omega)
      exact ⟨_, rfl, _, rfl, ⟨_, by omega, r9, hfm.then' (Frm.of_grown g9 (fun b hb => (Option.some.inj hb).symm))⟩, .inr (Frm.of_grown g9 (fun b hb => (Option.some.inj hb).symm)), (show isIx 3 _ w9 from ⟨x9, rfl, x90, x92⟩)⟩
    · have e9 : isL3 g (a'.eval (.tmp 27)) wk := hd ⟨9, .data⟩ (by simp) rfl (by intro j _ hc; revert hc; unfold whCons; simp; try omega)
      have e11 : isIx 3 (a'.eval (.tmp 29)) wk := hd ⟨11, .data⟩ (by simp) rfl (by intro j _ hc; revert hc; unfold whCons; simp; try omega)
      obtain ⟨b9, s4, s6, s8, v9, hbg, hh9, hs4, hs6, hs8⟩ := e9
      have u9 := ev_get v9
      obtain ⟨x6, v11, x60, x61⟩ := e11
      have u11 := ev_get v11
      obtain ⟨i6, rfl⟩ : ∃ i6 : Nat, x6 = i6 := ⟨x6.toNat, by omega⟩
      have hi63 : i6 < 3 := by omega
      have x62 : (i6 : Int) < 3 := by omega
      exact iv_val (v := .pointer (some ⟨b9, i6, none⟩)) (by simp [execOp, u9, u11, x62, go_sem, Result.andThen]) ⟨_, rfl, dwStep hj, .inl rfl, (show isP3 g _ wk from ⟨b9, i6, s4, s6, s8, rfl, hi63, hbg, hh9, hs4, hs6, hs8⟩)⟩
    · have e12 : isP3 g (a'.eval (.tmp 30)) wk := hd ⟨12, .data⟩ (by simp) rfl (by intro j _ hc; revert hc; unfold whCons; simp; try omega)
      obtain ⟨b9, i6, s4, s6, s8, v12, hi63, hbg, hh9, hs4, hs6, hs8⟩ := e12
      have u12 := ev_get v12
      obtain ⟨sx, hsx, hcx⟩ := three_cell hi63 hh9 hs4 hs6 hs8
      exact iv_val (v := .string sx) (by simp [execOp, u12, hcx, go_sem, Result.andThen]) ⟨_, rfl, dwStep hj, .inl rfl, (show isST _ wk from ⟨sx, rfl, hsx⟩)⟩
    · have v0 : a'.eval (.tmp 18) = sv := hd ⟨0, .data⟩ (by simp) rfl (by intro j _ hc; revert hc; unfold whCons; simp; try omega); have u0 := ev_get v0
      exact iv_val (v := sv) (by simp [execOp, v0]) ⟨_, rfl, dwStep hj, .inl rfl, rfl⟩
    · have v1 : a'.eval (.tmp 19) = .int .i64 root := hd ⟨1, .data⟩ (by simp) rfl (by intro j _ hc; revert hc; unfold whCons; simp; try omega); have u1 := ev_get v1
      exact iv_val (v := .int .i64 root) (by simp [execOp, v1]) ⟨_, rfl, dwStep hj, .inl rfl, rfl⟩
    · have v2 : a'.eval (.tmp 20) = .string path := hd ⟨2, .data⟩ (by simp) rfl (by intro j _ hc; revert hc; unfold whCons; simp; try omega); have u2 := ev_get v2
      exact iv_val (v := .string path) (by simp [execOp, v2]) ⟨_, rfl, dwStep hj, .inl rfl, rfl⟩
    · have e13 : isST (a'.eval (.tmp 31)) wk := hd ⟨13, .data⟩ (by simp) rfl (by intro j _ hc; revert hc; unfold whCons; simp; try omega)
      exact iv_val (v := a'.eval (.tmp 31)) (by simp [execOp]) ⟨_, rfl, dwStep hj, .inl rfl, e13⟩
  case fin =>
    intro tm w9 hj hF
    obtain ⟨p9, hp9, r9, fm9⟩ := hj
    have q2 : tm.getD 2 undef = sv := hF 14 _ rfl (fun j => rfl)
    have q3 : tm.getD 3 undef = .int .i64 root := hF 15 _ rfl (fun j => rfl)
    have q4 : tm.getD 4 undef = .string path := hF 16 _ rfl (fun j => rfl)
    have q5 : isST (tm.getD 5 undef) w9 := hF 17 _ rfl (fun j => rfl)
    clear hF
    obtain ⟨s5, e5, hs5⟩ := q5
    simp only [refillL, List.setIfInBounds_toArray, List.set_cons_succ, List.set_cons_zero]
    rw [q2, q3, q4, e5]
    have hsb := HSB.out
    have O9 := hid (OW.out.frm fm9 (fun b hb e => by have := hsb b hb; omega))
    have d9 := DW.out.trans (fm9.below (B := w.heap.size) (fun k hk => by omega) (DW.out.size))
    clear r9 fm9 q2 q3 q4 e5
    go_wp2
    (try simp only [Exit.inBlock, Exit.then])
    refine bodyPost_ret (results_tmp4' rfl _ _ _) rfl ?_
    exact ⟨_, _, _, _, _, rfl, O9.out, HD.out, hps, by omega, d9⟩

/-- A drawn store, a root and a word. -/
def NamedB (w : World) (e : Ending) (w' : World) : Prop := ∃ (v : Value) (xs : List Pc) (root : Int) (word : ByteArray), e = .returned (.tuple #[v, .int .i64 root, .string word]) ∧ OwnP w' w.heap.size v xs ∧ DrawnH xs ∧ word.size ≤ 100 ∧ Below w.heap.size w w'

end Go.Proofs.YtnaahincolooeaaGreatDoor
