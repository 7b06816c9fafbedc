/- Walks: the law on all files. -/
import Derived.Test.YtnaahincolooeaaGreatDoorMg39
import Derived.Test.YtnaahincolooeaaGreatDoorMg45
namespace Go.Proofs.YtnaahincolooeaaGreatDoor
open Go.RowKit

def AB : ByteArray := ⟨#[47, 97, 47, 98]⟩
theorem among_ab (xs : List Pc) (root : Int) : (allFiles xs root).any (fun p => decide (p = AB)) = (readAt xs root (bs AB)).2 := by
  cases hs : storeOk xs
  · have h2 : (readAt xs root (bs AB)).2 = false := by unfold readAt; rw [walk_off (.inl hs)]; rfl
    rw [allFiles_off hs, h2]; rfl
  · have h := among_iff (root := root) (path := bs AB) (ws := [[97], [98]]) hs (by rfl) (by simp)
    rw [strL_bs] at h
    cases hr : (readAt xs root (bs AB)).2
    · rw [List.any_eq_false]
      intro x hx
      simp only [decide_eq_true_eq]
      intro e
      rw [e] at hx
      rw [h.1 hx] at hr; cases hr
    · rw [List.any_eq_true]
      exact ⟨AB, h.2 hr, by simp⟩
theorem once_ne {xs : List Pc} {root : Int} {j k : Nat} {x y : ByteArray} (hj : (allFiles xs root)[j]? = some x) (hk : (allFiles xs root)[k]? = some y) (h : j < k) : x ≠ y := by
  have hp := allFiles_once (xs := xs) (root := root)
  obtain ⟨h1, e1⟩ := List.getElem?_eq_some_iff.1 hj
  obtain ⟨h2, e2⟩ := List.getElem?_eq_some_iff.1 hk
  have := List.pairwise_iff_getElem.1 hp j k h1 h2 h
  rw [e1, e2] at this
  exact this

set_option maxHeartbeats 2000000 in
set_option maxRecDepth 100000 in
theorem laws_FnAllFiles_c (v : Value) (l : List Int) (w : World) (h : Rd encU 1 w w.heap.size v l) (hl : ∀ x ∈ l, 0 ≤ x ∧ x ≤ 255) (hg : Glob w) (hm : Mx w) :
    Calls Tryz.prog 6 #[v] w fun e w' => e = .returned (.bool true) ∧ Below w.heap.size w w' := by
  obtain ⟨n0, hn0⟩ : ∃ n, l.length = n := ⟨_, rfl⟩
  obtain ⟨a, c, rfl, _, _, _⟩ := Rd.openN h (fun _ => rfl) hn0
  have HG0 := hid hg
  have HM0 := hid hm
  clear hg hm
  by_cases hbig : 1048576 < n0
  · go_enter Tryz.func6, Tryz.ntmps6
    go_wp2
    go_ret
    exact ⟨rfl, Below.refl _ _⟩
  go_enter Tryz.func6, Tryz.ntmps6
  go_wp2_with fail
  refine (spec_DrawAllFiles_c _ l w h hl).mono ?_
  rintro e w1 ⟨sv, xs, root, rfl, o1, hd, b1⟩
  have HP : Hid (∀ wx, Below w1.heap.size w1 wx → Pcs wx wx.heap.size sv xs) := hid fun wx hx => (Rd.of_own o1).on hx
  have HD := hid hd
  have HG : Hid (∀ wx, Below w1.heap.size w1 wx → Glob wx) := hid fun wx hx => (HG0.out.on b1).on hx
  have HM : Hid (∀ wx, Below w1.heap.size w1 wx → Mx wx) := hid fun wx hx => (HM0.out.on b1).on hx
  have r0 : Below w1.heap.size w1 w1 := Below.refl _ _
  clear h hl hn0 o1 hd
  obtain ⟨fs, hfs⟩ : ∃ fs, allFiles xs root = fs := ⟨_, rfl⟩
  have HFS := hid hfs
  obtain ⟨n, hn⟩ : ∃ n, fs.length = n := ⟨_, rfl⟩
  have HN := hid hn
  have hn27 : n ≤ 27 := by rw [← hn, ← hfs]; exact allFiles_len _ _
  obtain ⟨⟨C, th⟩, hR⟩ : ∃ R, readAt xs root (bs AB) = R := ⟨_, rfl⟩
  have HR := hid hR
  have HAN := hid (show fs.any (fun p => decide (p = AB)) = th by rw [← hfs, among_ab, hR])
  clear hfs hn hR
  go_wp2_with fail
  refine (impl_AllFiles_c _ xs root _ (HP.out _ r0) (HG.out _ r0)).mono ?_
  rw [HFS.out]
  rintro e w2 ⟨xv, rfl, o2, b2⟩
  obtain ⟨fa, fc, rfl, _, _, _⟩ := (Rd.of_own o2).strs HN.out
  have X2 := hid (Rd.of_own o2)
  clear o2
  go_wp2_with fail
  refine (spec_AllFiles_c _ xs root _ (HP.out _ b2) HD.out.sizes2.1 HD.out.sizes2.2).mono ?_
  rw [HFS.out]
  rintro e w3 ⟨yv, rfl, o3, b3⟩
  have d3 := bl_then b2 b3
  have X3 := hid (X2.out.on b3)
  have Y3 := hid (Rd.of_own o3)
  clear o3 b2 b3 X2
  go_wp2_with fail
  refine (laws_sameTexts_s _ _ fs _ _ _ X3.out Y3.out).mono ?_
  rintro e w4 ⟨rfl, z4, rfl⟩
  obtain ⟨W4, hW4⟩ : ∃ W4, W4 = w3.drewN z4 := ⟨_, rfl⟩
  have D4 : Hid (Below w1.heap.size w1 W4) := hid (by rw [hW4]; exact bl_drewN d3 z4)
  have h3 : ∀ i, i < n → ∃ b o x, fa = some ⟨b, o, none⟩ ∧ b < W4.heap.size ∧ Hid (fs[i]? = some x) ∧ W4.cell? ⟨b, o + i, none⟩ = some (.string x) := by
    intro i hi
    obtain ⟨a', c', hv', _, _, h'⟩ := (show Strs W4 W4.heap.size _ fs by rw [hW4]; exact X3.out.drewN z4).strs HN.out
    simp only [Value.slice.injEq] at hv'
    obtain ⟨rfl, _, rfl⟩ := hv'
    exact h' i hi
  have H3 := hid h3
  rw [← hW4]
  clear d3 X3 Y3 h3 hW4
  go_wp2
  go_loopw [6, 7, 8, 9, 10] (fun av kv _ _ _ wr => ∃ (k : Nat) (am : Bool), k ≤ n ∧ kv = .int .i64 k ∧ av = .bool am ∧ Hid (am = (fs.take k).any (fun p => decide (p = AB))) ∧ Below W4.heap.size W4 wr) (fun _ kv _ _ _ _ => n - (intOf kv).toNat)
  case atStart => exact ⟨0, false, Nat.zero_le _, rfl, rfl, hid (by simp), Below.refl _ _⟩
  case round =>
    obtain ⟨k, am, hk, rfl, rfl, ham, hb⟩ := hrel
    by_cases hlt : k < n
    · obtain ⟨b, o, p, rfl, hbl, hx, k0⟩ := H3.out k hlt
      have j0 := (hb.cell (p := ⟨b, o + k, none⟩) hbl).trans k0
      have hkn : (k : Int) < n := by omega
      have hmem : p ∈ allFiles xs root := by rw [HFS.out]; exact List.mem_of_getElem? hx.out
      have hps : p.size ≤ 1000 := by have := files_path hmem; omega
      obtain ⟨_, _, _, _, _, _, hrd⟩ := among_read hmem
      obtain ⟨⟨A, fk⟩, hA⟩ : ∃ R, readAt xs root (bs p) = R := ⟨_, rfl⟩
      rw [hA] at hrd
      obtain rfl : fk = true := hrd
      have HA := hid hA
      have HK0 := hid k0
      have HAM := hid (show (am || decide (p = AB)) = (fs.take (k + 1)).any (fun p => decide (p = AB)) by rw [any_succ _ hx.out, ham.out])
      clear hA k0 hmem ham
      go_wp2_with fail
      refine (impl_ReadAt_e _ xs root p _ _ _ HA.out (HP.out _ (bl_then D4.out hb)) hps (HG.out _ (bl_then D4.out hb)) (HM.out _ (bl_then D4.out hb))).mono ?_
      rintro e w5 ⟨rfl, b5⟩
      have d5 := bl_then hb b5
      have j5 := (d5.cell (p := ⟨b, o + k, none⟩) hbl).trans HK0.out
      have hse := str_eqE (u := p) (t := AB)
      obtain ⟨dp, hdp⟩ : ∃ dp, decide (p = AB) = dp := ⟨_, rfl⟩
      have HDP := hid hdp
      rw [hdp] at hse
      rw [hdp] at HAM
      have hse2 : (p.toList == [47, 97, 47, 98]) = dp := by rw [← hse]; rw [show AB.toList = [47, 97, 47, 98] by rw [ByteArray.toList_eq]; rfl]
      clear b5 j0 hdp
      have HGO := hid (show ∀ j, j < k → ∃ y, fs[j]? = some y ∧ W4.cell? ⟨b, o + j, none⟩ = some (.string y) ∧ (y.toList == p.toList) = false from fun j hj => by
        obtain ⟨b', o', y, hbo, hbl', hxy, hcy⟩ := H3.out j (by omega)
        simp only [Option.some.injEq, Addr.mk.injEq, and_true] at hbo
        obtain ⟨rfl, rfl⟩ := hbo
        refine ⟨y, hxy.out, hcy, ?_⟩
        rw [str_eqE]
        exact decide_eq_false (once_ne (xs := xs) (root := root) (by rw [HFS.out]; exact hxy.out) (by rw [HFS.out]; exact hx.out) hj))
      cases am
      · cases dp
        · go_wp2
          go_loopw [10] (fun jv wr => ∃ j z : Nat, j ≤ k ∧ jv = .int .i64 j ∧ wr = w5.drewN z) (fun jv _ => k - (intOf jv).toNat)
          case atStart => exact ⟨0, 0, Nat.zero_le _, rfl, rfl⟩
          case round =>
            obtain ⟨j, z, hj, rfl, rfl⟩ := hrel
            by_cases hjk : j < k
            · obtain ⟨y, _, hcy, hne⟩ := HGO.out j hjk
              have hjk' : (j : Int) < k := by omega
              have hjn' : (j : Int) < n := by omega
              have cy := (d5.cell (p := ⟨b, o + j, none⟩) hbl).trans hcy
              go_wp2
              go_quiet (fail)
              go_wp2
              go_roundw
              case rel => exact ⟨j + 1, _, by omega, by go_num, rfl⟩
              case measure => simp [intOf]; omega
            · have d7 := bl_drewN d5 z
              go_wp2
              go_roundw
              case rel => exact ⟨k + 1, false, by omega, by go_num, rfl, HAM, d7⟩
              case measure => simp [intOf]; omega
        · go_wp2
          go_loopw [10] (fun jv wr => ∃ j z : Nat, j ≤ k ∧ jv = .int .i64 j ∧ wr = w5.drewN z) (fun jv _ => k - (intOf jv).toNat)
          case atStart => exact ⟨0, 0, Nat.zero_le _, rfl, rfl⟩
          case round =>
            obtain ⟨j, z, hj, rfl, rfl⟩ := hrel
            by_cases hjk : j < k
            · obtain ⟨y, _, hcy, hne⟩ := HGO.out j hjk
              have hjk' : (j : Int) < k := by omega
              have hjn' : (j : Int) < n := by omega
              have cy := (d5.cell (p := ⟨b, o + j, none⟩) hbl).trans hcy
              go_wp2
              go_quiet (fail)
              go_wp2
              go_roundw
              case rel => exact ⟨j + 1, _, by omega, by go_num, rfl⟩
              case measure => simp [intOf]; omega
            · have d7 := bl_drewN d5 z
              go_wp2
              go_roundw
              case rel => exact ⟨k + 1, true, by omega, by go_num, rfl, HAM, d7⟩
              case measure => simp [intOf]; omega
      · go_wp2
        go_loopw [10] (fun jv wr => ∃ j z : Nat, j ≤ k ∧ jv = .int .i64 j ∧ wr = w5.drewN z) (fun jv _ => k - (intOf jv).toNat)
        case atStart => exact ⟨0, 0, Nat.zero_le _, rfl, rfl⟩
        case round =>
          obtain ⟨j, z, hj, rfl, rfl⟩ := hrel
          by_cases hjk : j < k
          · obtain ⟨y, _, hcy, hne⟩ := HGO.out j hjk
            have hjk' : (j : Int) < k := by omega
            have hjn' : (j : Int) < n := by omega
            have cy := (d5.cell (p := ⟨b, o + j, none⟩) hbl).trans hcy
            go_wp2
            go_quiet (fail)
            go_wp2
            go_roundw
            case rel => exact ⟨j + 1, _, by omega, by go_num, rfl⟩
            case measure => simp [intOf]; omega
          · have d7 := bl_drewN d5 z
            go_wp2
            go_roundw
            case rel => exact ⟨k + 1, true, by omega, by go_num, rfl, HAM, d7⟩
            case measure => simp [intOf]; omega
    · have HAE := hid (show am = th by rw [ham.out, take_all HN.out (show n ≤ k by omega)]; exact HAN.out)
      have d5 := bl_then D4.out hb
      obtain rfl := HAE.out
      clear ham HAE
      go_wp2_with fail
      refine (impl_ReadAt_e _ xs root AB _ _ _ HR.out (HP.out _ d5) (by decide) (HG.out _ d5) (HM.out _ d5)).mono ?_
      rintro e w6 ⟨rfl, b6⟩
      have d6 := bl_then b1 (bl_then d5 b6)
      cases am
      · go_wp2_with (go_at_call 19; refine (laws_alive_c _).mono ?_; rintro e w99 ⟨rfl, rfl⟩)
        go_ret
        exact ⟨rfl, d6⟩
      · go_wp2_with (go_at_call 19; refine (laws_alive_c _).mono ?_; rintro e w99 ⟨rfl, rfl⟩)
        go_ret
        exact ⟨rfl, d6⟩

end Go.Proofs.YtnaahincolooeaaGreatDoor
