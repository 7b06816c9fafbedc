/- Walks: the law on swept stores. -/
import Derived.Test.YtachfmlfmpaddaaGreatDoorMg3
import Derived.Test.YtachfmlfmpaddaaGreatDoorMg4
import Derived.Test.YtachfmlfmpaddaaGreatDoorMg5
import Derived.Test.YtachfmlfmpaddaaGreatDoorMg13
import Derived.Test.YtachfmlfmpaddaaGreatDoorMg17
import Derived.Test.YtachfmlfmpaddaaGreatDoorMg27
import Derived.Test.YtachfmlfmpaddaaGreatDoorMg29
import Derived.Test.YtachfmlfmpaddaaGreatDoorMg30
import Derived.Test.YtachfmlfmpaddaaGreatDoorMg31
import Derived.Test.YtachfmlfmpaddaaGreatDoorMg34
import Derived.Test.YtachfmlfmpaddaaGreatDoorMg36
import Derived.Test.YtachfmlfmpaddaaGreatDoorMg38
import Derived.Test.YtachfmlfmpaddaaGreatDoorMg41
import Derived.Test.YtachfmlfmpaddaaGreatDoorMg43
namespace Go.Proofs.YtachfmlfmpaddaaGreatDoor
open Go.RowKit

set_option maxHeartbeats 2000000 in
set_option maxRecDepth 100000 in
theorem laws_FnSweepStore_c (v : Value) (l : List Int) (w : World) (h : Rd encU 1 w w.heap.size v l) (hl : ∀ x ∈ l, 0 ≤ x ∧ x ≤ 255) (hg : Glob w) (hm : Mx w) :
    Calls Tryz.prog 12 #[v] w fun e w' => e = .returned (.bool true) ∧ Below w.heap.size w w' := by
  obtain ⟨n0, hn0⟩ : ∃ n, l.length = n := ⟨_, rfl⟩
  obtain ⟨a, c, rfl, _, _, _⟩ := Rd.openN h (fun _ => rfl) hn0
  have HG0 := hid hg
  have HM0 := hid hm
  clear hg hm
  by_cases hbig : 1048576 < n0
  · go_enter Tryz.func12, Tryz.ntmps12
    go_wp2
    go_ret
    exact ⟨rfl, Below.refl _ _⟩
  go_enter Tryz.func12, Tryz.ntmps12
  go_wp2_with fail
  refine (spec_DrawSweepStore_c _ l w h hl).mono ?_
  rintro e w1 ⟨sv, rv, xs, ns, rfl, o1, hd, a1, hnl, b1⟩
  have HP : Hid (∀ wx, Below w1.heap.size w1 wx → Pcs wx wx.heap.size sv xs) := hid fun wx hx => (Rd.of_own o1).on hx
  have HG : Hid (∀ wx, Below w1.heap.size w1 wx → Glob wx) := hid fun wx hx => (HG0.out.on b1).on hx
  have HM : Hid (∀ wx, Below w1.heap.size w1 wx → Mx wx) := hid fun wx hx => (HM0.out.on b1).on hx
  have HD := hid hd
  have r0 : Below w1.heap.size w1 w1 := Below.refl _ _
  have HI : Hid (∀ wx, Below w1.heap.size w1 wx → Ints wx wx.heap.size rv ns) := hid fun wx hx => (Rd.of_own a1).on hx
  obtain ⟨m, hm⟩ : ∃ m, ns.length = m := ⟨_, rfl⟩
  obtain ⟨ra, rc, rfl, _, _, h3⟩ := (Rd.of_own a1).ints hm
  have H3 := hid h3
  have HNM := hid hm
  have hm4 : m ≤ 4 := by omega
  have HNL := hid (show ns.length ≤ 1048576 by omega)
  obtain ⟨X, hX⟩ : ∃ X, sweepOf xs ns = X := ⟨_, rfl⟩
  have HX := hid hX
  obtain ⟨q, hq⟩ : ∃ q, X.length = q := ⟨_, rfl⟩
  have HQ := hid hq
  obtain ⟨so, hso⟩ : ∃ so, storeOk xs = so := ⟨_, rfl⟩
  have HSO := hid hso
  clear h hl hn0 o1 hd a1 h3 hX hq hso hm hnl
  go_wp2_with fail
  refine (impl_SweepStore_c _ _ xs ns _ (HP.out _ r0) (HI.out _ r0) HNL.out (HG.out _ r0)).mono ?_
  rw [HX.out]
  rintro e w2 ⟨xv, rfl, o2, b2⟩
  obtain ⟨xa, xc, rfl, _, _, _⟩ := (Rd.of_own o2).pcs HQ.out
  have X2 := hid (Rd.of_own o2)
  clear o2
  go_wp2_with fail
  refine (spec_SweepStore_c _ _ xs ns _ (HP.out _ b2) (HI.out _ b2) HD.out.2.sizes2.1 HD.out.2.sizes2.2).mono ?_
  rw [HX.out]
  rintro e w3 ⟨yv, rfl, o3, b3⟩
  have d3 := bl_then b2 b3
  have X3 := hid (X2.out.on b3)
  have Y3 := hid (Rd.of_own o3)
  clear o3 b2 b3 X2
  go_wp2_with fail
  refine (laws_samePieces_s _ _ X _ _ _ X3.out Y3.out).mono ?_
  rintro e w4 ⟨rfl, z4, rfl⟩
  have d4 := bl_drewN d3 z4
  have X4 := hid (X3.out.drewN z4)
  clear d3 X3 Y3
  go_wp2_with fail
  refine (impl_StoreValid_c _ xs _ (HP.out _ d4)).mono ?_
  rw [HSO.out]
  rintro e w5 ⟨rfl, b5⟩
  have d5 := bl_then d4 b5
  have d15 := bl_then b1 d5
  have X5 := hid (show Pcs w5 w5.heap.size (.slice xa q xc) X from X4.out.on b5)
  have D5 := hid d5
  clear b5 X4
  cases so
  · have hX0 : X = [] := by rw [← HX.out]; exact sweepOf_off HSO.out
    obtain rfl : q = 0 := by rw [← HQ.out, hX0]; rfl
    clear hX0
    go_wp2_with (go_at_call 21; refine (laws_alive_c _).mono ?_; rintro e w99 ⟨rfl, rfl⟩)
    go_ret
    exact ⟨rfl, d15⟩
  · have HXO := hid (show storeOk X = true by rw [← HX.out]; exact sweep_ok HSO.out)
    have HKR := hid (show KeepsR xs X ns by rw [← HX.out]; exact sweep_keeps HSO.out)
    have HTW := hid (show sweepOf X ns = X by rw [← HX.out]; exact sweep_twice HSO.out)
    clear d4 d5
    go_wp2
    go_loopw [6] (fun kv wr => ∃ k : Nat, k ≤ m ∧ kv = .int .i64 k ∧ Below w5.heap.size w5 wr) (fun kv _ => m - (intOf kv).toNat)
    case atStart => exact ⟨0, Nat.zero_le _, rfl, Below.refl _ _⟩
    case round =>
      obtain ⟨k, hk, rfl, hb⟩ := hrel
      have dd := bl_then D5.out hb
      by_cases hlt : k < m
      · obtain ⟨b, o, r, rfl, hbl, hx, k0⟩ := H3.out k hlt
        have j0 := (dd.cell (p := ⟨b, o + k, none⟩) hbl).trans k0
        have hkm : (k : Int) < m := by omega
        have HKK := hid (keeps_r HKR.out HXO.out (List.mem_of_getElem? hx.out))
        clear k0
        go_wp2_with fail
        refine (laws_keepsFiles_c _ _ xs X r _ HKK.out (HP.out _ dd) (X5.out.on hb) (HG.out _ dd) (HM.out _ dd)).mono ?_
        rintro e w6 ⟨rfl, b6⟩
        have d6 := bl_then hb b6
        go_wp2
        go_roundw
        case rel => exact ⟨k + 1, by omega, by go_num, d6⟩
        case measure => simp [intOf]; omega
      · go_wp2_with fail
        refine (impl_StoreValid_c _ X _ (X5.out.on hb)).mono ?_
        rw [HXO.out]
        rintro e w6 ⟨rfl, b6⟩
        have d6 := bl_then dd b6
        have f6 := bl_then hb b6
        go_wp2_with fail
        refine (impl_SweepStore_c _ _ X ns _ (X5.out.on f6) (HI.out _ d6) HNL.out (HG.out _ d6)).mono ?_
        rw [HTW.out]
        rintro e w7 ⟨uv, rfl, o7, b7⟩
        have f7 := bl_then f6 b7
        have d7 := bl_then b1 (bl_then d6 b7)
        have U7 := hid (Rd.of_own o7)
        clear o7
        go_wp2_with fail
        refine (laws_samePieces_s _ _ X _ _ _ U7.out (X5.out.on f7)).mono ?_
        rintro e w8 ⟨rfl, z8, rfl⟩
        have d8 := bl_drewN d7 z8
        go_wp2
        go_ret
        exact ⟨rfl, d8⟩

end Go.Proofs.YtachfmlfmpaddaaGreatDoor
