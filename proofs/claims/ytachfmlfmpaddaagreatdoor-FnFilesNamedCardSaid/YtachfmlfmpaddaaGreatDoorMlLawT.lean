/- Walks: the law on files of a name. -/
import Derived.Test.YtachfmlfmpaddaaGreatDoorMg6
import Derived.Test.YtachfmlfmpaddaaGreatDoorMg20
import Derived.Test.YtachfmlfmpaddaaGreatDoorMg37
import Derived.Test.YtachfmlfmpaddaaGreatDoorMg38
import Derived.Test.YtachfmlfmpaddaaGreatDoorMg40
import Derived.Test.YtachfmlfmpaddaaGreatDoorMg46
namespace Go.Proofs.YtachfmlfmpaddaaGreatDoor
open Go.RowKit

set_option maxHeartbeats 2000000 in
set_option maxRecDepth 100000 in
theorem laws_FnFilesNamed_c (v : Value) (l : List Int) (w : World) (h : Rd encU 1 w w.heap.size v l) (hl : ∀ x ∈ l, 0 ≤ x ∧ x ≤ 255) (hg : Glob w) (hm : Mx w) :
    Calls Tryz.prog 7 #[v] w fun e w' => e = .returned (.bool true) ∧ Below w.heap.size w w' := by
  obtain ⟨n0, hn0⟩ : ∃ n, l.length = n := ⟨_, rfl⟩
  obtain ⟨a, c, rfl, _, _, _⟩ := Rd.openN h (fun _ => rfl) hn0
  have HG0 := hid hg
  have HM0 := hid hm
  clear hg hm
  by_cases hbig : 1048576 < n0
  · go_enter Tryz.func7, Tryz.ntmps7
    go_wp2
    go_ret
    exact ⟨rfl, Below.refl _ _⟩
  go_enter Tryz.func7, Tryz.ntmps7
  go_wp2_with fail
  refine (spec_DrawFilesNamed_c _ l w h hl).mono ?_
  rintro e w1 ⟨sv, xs, root, word, rfl, o1, hd, hws, b1⟩
  have HP : Hid (∀ wx, Below w1.heap.size w1 wx → Pcs wx wx.heap.size sv xs) := hid fun wx hx => (Rd.of_own o1).on hx
  have HD := hid hd
  have HG : Hid (∀ wx, Below w1.heap.size w1 wx → Glob wx) := hid fun wx hx => (HG0.out.on b1).on hx
  have HM : Hid (∀ wx, Below w1.heap.size w1 wx → Mx wx) := hid fun wx hx => (HM0.out.on b1).on hx
  have r0 : Below w1.heap.size w1 w1 := Below.refl _ _
  clear h hl hn0 o1 hd
  obtain ⟨fs, hfs⟩ : ∃ fs, allFiles xs root = fs := ⟨_, rfl⟩
  have HFS := hid hfs
  obtain ⟨q, hq⟩ : ∃ q, fs.length = q := ⟨_, rfl⟩
  have HQ := hid hq
  obtain ⟨ns, hns⟩ : ∃ ns, filesNamed xs root word = ns := ⟨_, rfl⟩
  have HNS := hid hns
  obtain ⟨n, hn⟩ : ∃ n, ns.length = n := ⟨_, rfl⟩
  have HN := hid hn
  have hq27 : q ≤ 27 := by rw [← hq, ← hfs]; exact allFiles_len _ _
  have hnq : n ≤ q := by rw [← hn, ← hns, ← hq, ← hfs]; unfold filesNamed; exact List.length_filter_le _ _
  have hnq' : (n : Int) ≤ q := by omega
  clear hfs hn hq hns
  go_wp2_with fail
  refine (impl_FilesNamed_c _ xs root word _ (HP.out _ r0) (HG.out _ r0) (HM.out _ r0)).mono ?_
  rw [HNS.out]
  rintro e w2 ⟨xv, rfl, o2, b2⟩
  obtain ⟨fa, fc, rfl, _, _, _⟩ := (Rd.of_own o2).strs HN.out
  have X2 := hid (Rd.of_own o2)
  clear o2
  go_wp2_with fail
  refine (spec_FilesNamed_c _ xs root word _ (HP.out _ b2) HD.out.sizes2.1 HD.out.sizes2.2).mono ?_
  rw [HNS.out]
  rintro e w3 ⟨yv, rfl, o3, b3⟩
  have d3 := bl_then b2 b3
  have X3 := hid (X2.out.on b3)
  have Y3 := hid (Rd.of_own o3)
  clear o3 b2 b3 X2
  go_wp2_with fail
  refine (laws_sameTexts_s _ _ ns _ _ _ X3.out Y3.out).mono ?_
  rintro e w4 ⟨rfl, z4, rfl⟩
  obtain ⟨W4, hW4⟩ : ∃ W4, W4 = w3.drewN z4 := ⟨_, rfl⟩
  have D4 : Hid (Below w1.heap.size w1 W4) := hid (by rw [hW4]; exact bl_drewN d3 z4)
  have h3 : ∀ i, i < n → ∃ b o x, fa = some ⟨b, o, none⟩ ∧ b < W4.heap.size ∧ Hid (ns[i]? = some x) ∧ W4.cell? ⟨b, o + i, none⟩ = some (.string x) := by
    intro i hi
    obtain ⟨a', c', hv', _, _, h'⟩ := (show Strs W4 W4.heap.size _ ns by rw [hW4]; exact X3.out.drewN z4).strs HN.out
    simp only [Value.slice.injEq] at hv'
    obtain ⟨rfl, _, rfl⟩ := hv'
    exact h' i hi
  have H3 := hid h3
  rw [← hW4]
  clear d3 X3 Y3 h3 hW4
  go_wp2
  go_loopw [7, 8, 9, 10, 11] (fun kv _ _ _ _ wr => ∃ k : Nat, k ≤ n ∧ kv = .int .i64 k ∧ Below W4.heap.size W4 wr) (fun kv _ _ _ _ _ => n - (intOf kv).toNat)
  case atStart => exact ⟨0, Nat.zero_le _, rfl, Below.refl _ _⟩
  case round =>
    obtain ⟨k, hk, rfl, hb⟩ := hrel
    by_cases hlt : k < n
    · obtain ⟨b, o, p, rfl, hbl, hx, k0⟩ := H3.out k hlt
      have j0 := (hb.cell (p := ⟨b, o + k, none⟩) hbl).trans k0
      have hkn : (k : Int) < n := by omega
      have hmem : p ∈ filesNamed xs root word := by rw [HNS.out]; exact List.mem_of_getElem? hx.out
      have hps : p.size ≤ 1000 := by
        have : p ∈ allFiles xs root := (List.mem_filter.1 (show p ∈ (allFiles xs root).filter (fun p => lastW p word) from hmem)).1
        have := files_path this
        omega
      obtain ⟨ws, h0, hl3, hpp, hlast, hrd⟩ := named_facts hmem
      obtain ⟨m, hm⟩ : ∃ m, ws.length = m := ⟨_, rfl⟩
      have HPP := hid hpp
      have HWM := hid hm
      have HLA := hid hlast
      have hm1 : 1 ≤ m := by
        rw [← hm]
        rcases ws with _ | ⟨a, r⟩
        · exact absurd rfl h0
        · simp
      have hm3 : m ≤ 3 := by omega
      obtain ⟨⟨A, fk⟩, hA⟩ : ∃ R, readAt xs root (bs p) = R := ⟨_, rfl⟩
      rw [hA] at hrd
      obtain rfl : fk = true := hrd
      have HA := hid hA
      have HK0 := hid k0
      clear k0 hA hmem h0 hl3 hpp hm hlast
      go_wp2_with fail
      refine (impl_PathParts_c p _ hps (HM.out _ (bl_then D4.out hb))).mono ?_
      rw [parts_back HPP.out, show (pathParts (bs p)).isSome = true by rw [HPP.out]; rfl]
      rintro e w5 ⟨pv, rfl, o5, b5⟩
      obtain ⟨pa, pc, rfl, _, _, h5⟩ := (Rd.of_own o5).strs HWM.out
      obtain ⟨b', o', y, rfl, hbl', hy, c5⟩ := h5 (m - 1) (by omega)
      obtain rfl : y = word := by
        have h1 := HLA.out
        rw [List.getLast?_eq_getElem?, HWM.out, hy.out] at h1
        exact Option.some.inj h1
      have d5 := bl_then hb b5
      have j5 := (d5.cell (p := ⟨b, o + k, none⟩) hbl).trans HK0.out
      have hw1 : IntKind.i64.wrap ((m : Int) - 1) = ((m - 1 : Nat) : Int) := by rw [IntWalk.i64_in _ (by omega)]; omega
      have hqm : ((m - 1 : Nat) : Int) < m := by omega
      have hm0 : ((m : Int) == 0) = false := by simp; omega
      obtain ⟨qq, hqq⟩ : ∃ q, m - 1 = q := ⟨_, rfl⟩
      rw [hqq] at hw1 hqm c5
      have hb5 := d5.size
      clear o5 h5 b5 hb j0 hy hqq
      go_wp2_with fail
      refine (impl_ReadAt_e _ xs root p _ _ _ HA.out (HP.out _ (bl_then D4.out d5)) hps (HG.out _ (bl_then D4.out d5)) (HM.out _ (bl_then D4.out d5))).mono ?_
      rintro e w6 ⟨rfl, b6⟩
      have d6 := bl_then d5 b6
      have c6 := (b6.cell (p := ⟨b', o' + qq, none⟩) hbl').trans c5
      clear b6 d5 j5 c5
      go_wp2
      go_roundw
      case rel => exact ⟨k + 1, by omega, by go_num, d6⟩
      case measure => simp [intOf]; omega
    · have d5 := bl_then D4.out hb
      go_wp2_with fail
      refine (impl_AllFiles_c _ xs root _ (HP.out _ d5) (HG.out _ d5)).mono ?_
      rw [HFS.out]
      rintro e w6 ⟨zv, rfl, o6, b6⟩
      obtain ⟨za, zc, rfl, _, _, _⟩ := (Rd.of_own o6).strs HQ.out
      have d6 := bl_then b1 (bl_then d5 b6)
      clear o6
      go_wp2_with (go_at_call 21; refine (laws_alive_c _).mono ?_; rintro e w99 ⟨rfl, rfl⟩)
      go_ret
      exact ⟨rfl, d6⟩

end Go.Proofs.YtachfmlfmpaddaaGreatDoor
