/- Walks and plain facts, joined: KeepW. -/
import Derived.Test.YtachfmlfmpaddaaGreatDoorMg29
import Derived.Test.YtachfmlfmpaddaaGreatDoorMg36
set_option linter.unusedVariables false
set_option linter.unusedSimpArgs false

/- Walks: what keeps files, as the laws ask it. -/
namespace Go.Proofs.YtachfmlfmpaddaaGreatDoor
open Go.RowKit

set_option maxHeartbeats 2000000 in
set_option maxRecDepth 100000 in
theorem laws_keepsFiles_c (v u : Value) (s x : List Pc) (root : Int) (w : World) (H : Keeps s x root) (h : Pcs w w.heap.size v s) (h' : Pcs w w.heap.size u x) (hg : Glob w) (hm : Mx w) :
    Calls Tryz.prog 49 #[v, u, .int .i64 root] w fun e w' => e = .returned (.bool true) ∧ Below w.heap.size w w' := by
  have HP : Hid (∀ wx, Below w.heap.size w wx → Pcs wx wx.heap.size v s) := hid fun wx hx => h.on hx
  have HU : Hid (∀ wx, Below w.heap.size w wx → Pcs wx wx.heap.size u x) := hid fun wx hx => h'.on hx
  have HG : Hid (∀ wx, Below w.heap.size w wx → Glob wx) := hid fun wx hx => hg.on hx
  have HM : Hid (∀ wx, Below w.heap.size w wx → Mx wx) := hid fun wx hx => hm.on hx
  have HK := hid H
  have r0 : Below w.heap.size w w := Below.refl _ _
  obtain ⟨fs, hfs⟩ : ∃ fs, allFiles s root = fs := ⟨_, rfl⟩
  have HFS := hid hfs
  obtain ⟨n, hn⟩ : ∃ n, fs.length = n := ⟨_, rfl⟩
  have HN := hid hn
  have hn27 : n ≤ 27 := by rw [← hn, ← hfs]; exact allFiles_len _ _
  clear h h' hg hm hfs hn H
  go_enter Tryz.func49, Tryz.ntmps49
  go_wp2_with fail
  refine (impl_AllFiles_c _ s root _ (HP.out _ r0) (HG.out _ r0)).mono ?_
  rw [HFS.out]
  rintro e w1 ⟨fv, rfl, o1, b1⟩
  obtain ⟨fa, fc, rfl, _, _, h3⟩ := (Rd.of_own o1).strs HN.out
  have H3 := hid h3
  have B1 := hid b1
  clear o1 h3 b1
  go_wp2
  go_loopw [8, 9, 10, 11, 12] (fun kv _ _ _ _ wr => ∃ k : Nat, k ≤ n ∧ kv = .int .i64 k ∧ Below w1.heap.size w1 wr) (fun kv _ _ _ _ _ => n - (intOf kv).toNat)
  case atStart => exact ⟨0, Nat.zero_le _, rfl, Below.refl _ _⟩
  case round =>
    obtain ⟨k, hk, rfl, hb⟩ := hrel
    by_cases hlt : k < n
    · obtain ⟨b, o, p, rfl, hbl, hx, k0⟩ := H3.out k hlt
      have j0 := (hb.cell (p := ⟨b, o + k, none⟩) hbl).trans k0
      have hkn : (k : Int) < n := by omega
      have hmem : p ∈ allFiles s root := by rw [HFS.out]; exact List.mem_of_getElem? hx.out
      have hps : p.size ≤ 1000 := by have := files_path hmem; omega
      obtain ⟨k1, k2⟩ := HK.out p hmem
      obtain ⟨⟨A, fa1⟩, hA⟩ : ∃ R, readAt s root (bs p) = R := ⟨_, rfl⟩
      obtain ⟨⟨C, fc1⟩, hC⟩ : ∃ R, readAt x root (bs p) = R := ⟨_, rfl⟩
      rw [hC] at k1 k2
      rw [hA] at k2
      obtain rfl : fc1 = true := k1
      obtain rfl : C = A := k2
      have HA := hid hA
      have HC := hid hC
      have HBL := hid hbl
      have HK0 := hid k0
      clear hA hC k0 hmem
      go_wp2_with fail
      refine (impl_ReadAt_c _ s root p _ (HP.out _ (bl_then B1.out hb)) hps (HG.out _ (bl_then B1.out hb)) (HM.out _ (bl_then B1.out hb))).mono ?_
      rw [HA.out]
      rintro e w2 ⟨rfl, b2⟩
      have d2 := bl_then hb b2
      have j2 := (d2.cell (p := ⟨b, o + k, none⟩) HBL.out).trans HK0.out
      clear b2 j0
      go_wp2_with fail
      refine (impl_ReadAt_c _ x root p _ (HU.out _ (bl_then B1.out d2)) hps (HG.out _ (bl_then B1.out d2)) (HM.out _ (bl_then B1.out d2))).mono ?_
      rw [HC.out]
      rintro e w3 ⟨rfl, b3⟩
      have d3 := bl_then d2 b3
      clear b3 j2
      go_wp2
      go_roundw
      case rel => exact ⟨k + 1, by omega, by go_num, d3⟩
      case measure => simp [intOf]; omega
    · have d9 := bl_then B1.out hb
      go_wp2
      go_ret
      exact ⟨rfl, d9⟩

end Go.Proofs.YtachfmlfmpaddaaGreatDoor
