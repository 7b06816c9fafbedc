/- Walks: drawn stores to sync, and the law on them. -/
import Derived.Test.YtachfmlfmpaddaaGreatDoorMg2
import Derived.Test.YtachfmlfmpaddaaGreatDoorMg3
import Derived.Test.YtachfmlfmpaddaaGreatDoorMg4
import Derived.Test.YtachfmlfmpaddaaGreatDoorMg5
import Derived.Test.YtachfmlfmpaddaaGreatDoorMg6
import Derived.Test.YtachfmlfmpaddaaGreatDoorMg8
import Derived.Test.YtachfmlfmpaddaaGreatDoorMg12
import Derived.Test.YtachfmlfmpaddaaGreatDoorMg13
import Derived.Test.YtachfmlfmpaddaaGreatDoorMg17
import Derived.Test.YtachfmlfmpaddaaGreatDoorMg22
import Derived.Test.YtachfmlfmpaddaaGreatDoorMg25
import Derived.Test.YtachfmlfmpaddaaGreatDoorMg26
import Derived.Test.YtachfmlfmpaddaaGreatDoorMg28
import Derived.Test.YtachfmlfmpaddaaGreatDoorMg29
import Derived.Test.YtachfmlfmpaddaaGreatDoorMg30
import Derived.Test.YtachfmlfmpaddaaGreatDoorMg31
import Derived.Test.YtachfmlfmpaddaaGreatDoorMg34
import Derived.Test.YtachfmlfmpaddaaGreatDoorMg36
import Derived.Test.YtachfmlfmpaddaaGreatDoorMg38
import Derived.Test.YtachfmlfmpaddaaGreatDoorMg41
import Derived.Test.YtachfmlfmpaddaaGreatDoorMg43
namespace Go.Proofs.YtachfmlfmpaddaaGreatDoor
open Go.RowKit

theorem gb_twoS {w w1 w2 : World} {g : Nat} (hd : Below w.heap.size w w1) (hg : w1.grownBy w2 (some g)) (h : w.heap.size ≤ g) : Below w.heap.size w w2 := hd.grown hg hd.size (fun b hb => by simp at hb; omega)
def Smalls (xs : List Pc) : Prop := (∀ x ∈ xs, x.text.size ≤ 1048576) ∧ xs.length ≤ 41
theorem Smalls.of {xs : List Pc} (h : Drawn xs) : Smalls xs := ⟨h.2.sizes2.1, h.2.1⟩
theorem Smalls.take {xs : List Pc} (h : Smalls xs) (q : Nat) : Smalls (xs.take q) := ⟨fun x hx => h.1 x (List.mem_of_mem_take hx), by rw [List.length_take]; have := h.2; omega⟩
/-- Two drawn stores and a root. -/
def SyncB (w : World) (e : Ending) (w' : World) : Prop := ∃ (u v : Value) (ts fs : List Pc) (root : Int), e = .returned (.tuple #[u, v, .int .i64 root]) ∧ Pcs w' w'.heap.size u ts ∧ Pcs w' w'.heap.size v fs ∧ Smalls ts ∧ Smalls fs ∧ Below w.heap.size w w'

set_option maxHeartbeats 2000000 in
set_option maxRecDepth 100000 in
theorem spec_DrawSyncRoot_c (v : Value) (l0 : List Int) (w : World) (h : Rd encU 1 w w.heap.size v l0) (hl : ∀ x ∈ l0, 0 ≤ x ∧ x ≤ 255) :
    Calls Tryz.prog 50 #[v] w (SyncB w) := by
  unfold SyncB
  go_enter Tryz.func50, Tryz.ntmps50
  go_wp2_with fail
  refine (spec_l20Open_c v l0 w h hl).mono ?_
  rintro e w0 ⟨l, rfl, r0, b0⟩
  clear h hl
  obtain ⟨g, hg⟩ : ∃ g, w.heap.size = g := ⟨_, rfl⟩
  have HGG := hid hg
  have HB0 := hid b0
  rw [hg] at r0 ⊢
  have hgl : g < w0.heap.size := r0.lt
  clear hg b0
  go_wp2_with fail
  refine (spec_l20Store_c g 0 l 12 w0 r0 (by omega) (by omega) (by omega)).mono ?_
  rintro e w1 ⟨fv, fs, root, p1, rfl, o1, _, hd, hp1, r1, g1⟩
  obtain ⟨n, hn⟩ : ∃ n, fs.length = n := ⟨_, rfl⟩
  have HN := hid hn
  have hnp : 0 < n := by
    rw [← hn]
    have h0 := hd.1
    cases fs with
    | nil => exact absurd rfl h0
    | cons x r => simp
  have hn41 : n ≤ 41 := by rw [← hn]; exact hd.2.1
  obtain ⟨gs, c, rfl, hgs0, hgs, hnc⟩ := own_pc_slice o1 hn hnp
  have O1 := hid o1
  have HF := hid (Smalls.of hd)
  have D1 := hid (gb_twoS HB0.out g1 (by have := HGG.out; omega))
  have s1 := g1.size
  clear o1 hd g1 r0 hn
  go_wp2_with fail
  refine (spec_l20Store_c g p1 l 12 w1 r1 (by omega) (by omega) (by omega)).mono ?_
  rintro e w2 ⟨tv, ts, root2, p2, rfl, o2, _, hd2, hp2, r2, g2⟩
  have O2 := hid o2
  have HT := hid (Smalls.of hd2)
  have O1b := hid (O1.out.far g2 (fun b hb => by simp at hb; omega))
  have D2 := hid (gb_twoS D1.out g2 (by have := HGG.out; omega))
  have s2 := g2.size
  clear o2 hd2 g2 r1 O1 D1
  go_wp2_with fail
  refine (spec_pick_c g p2 l 2 _ r2 (by omega)).mono ?_
  rintro e w3 ⟨x, rfl, x0, x3, _, r3, g3⟩
  have O1c := hid (O1b.out.far g3 (fun b hb => by simp at hb; omega))
  have O2c := hid (O2.out.far g3 (fun b hb => by simp at hb; omega))
  have D3 := hid (gb_twoS D2.out g3 (by have := HGG.out; omega))
  clear r3 g3 x3 r2 O1b O2 D2
  by_cases hx0 : x = 0
  · subst hx0
    obtain ⟨q, hq⟩ : ∃ q, n / 2 = q := ⟨_, rfl⟩
    have hqd : IntKind.i64.wrap ((n : Int).tdiv 2) = (q : Int) := by
      rw [Int.tdiv_eq_ediv_of_nonneg (by omega), IntWalk.i64_in _ (by omega)]; omega
    have hqn : q ≤ n := by omega
    have hqc : q ≤ c := by omega
    have hqc' : (q : Int) ≤ c := by omega
    have hq0 : (0 : Int) ≤ q := by omega
    obtain ⟨W4, hW4⟩ : ∃ W4, W4 = w3.alloc (.cells #[] 60) := ⟨_, rfl⟩
    have hal : Below w3.heap.size w3 W4 := by rw [hW4]; exact (Below.refl _ _).alloc (Nat.le_refl _) _
    have hown0 : OwnP W4 w3.heap.size (.slice (some ⟨w3.heap.size, 0, none⟩) 0 0) [] := by rw [hW4]; exact Own.made w3 (Nat.le_refl _)
    have hrd : Pcs W4 W4.heap.size (.slice (some ⟨gs, 0, none⟩) q c) (fs.take q) := Rd.frontP ((Rd.of_own O1c.out).on hal) HN.out hqn
    have hsz : w3.heap.size ≤ W4.heap.size := hal.size
    obtain ⟨i0, hi0, hz0, hz1, hz2⟩ := info_parts info_pcO
    subst hq
    go_wp2_with (at_builtin; rw [← hW4]; refine wpList_cat (enc := encP) (w0 := w3) rfl _ _ 23 rfl w3.heap.size w3.heap.size 60 i0 _ 2 24 Tryz.underlying23 hi0 hz0 hz1 hz2 rfl (by decide) _ _ [] (fs.take (n / 2)) hown0 W4.heap.size hrd hal hsz (Nat.le_refl _) rfl rfl encP_one (by have := HN.out; simp; omega) (by decide) ?_; intro v' w' hown' hb' hB' _)
    go_ret3
    exact ⟨_, _, _, fs, root, rfl, Rd.of_own hown', (Rd.of_own O1c.out).on hb', by rw [List.nil_append]; exact HF.out.take (n / 2), HF.out, bl_then D3.out hb'⟩
  · have hxd : (x == 0) = false := by simp [hx0]
    clear hx0
    go_wp2
    go_ret3
    exact ⟨_, _, ts, fs, root, rfl, Rd.of_own O2c.out, Rd.of_own O1c.out, HT.out, HF.out, D3.out⟩

theorem sync_many {tt fr X : List Pc} {root Z : Int} (h : syncOf tt fr root = (X, Z)) : Z ≤ 40 := by
  unfold syncOf at h
  split at h
  · simp only [Prod.mk.injEq] at h
    have h1 := sendTexts_len (l := fr) (ns := wantedOf tt (reachOf fr [root]))
    have h2 := wantedOf_len (l := tt) (ns := reachOf fr [root])
    have h3 := reachOf_len (l := fr) (roots := [root])
    omega
  · simp only [Prod.mk.injEq] at h
    omega
theorem no_clash {ts fs : List Pc} {m n : Nat} (hm : ts.length = m) (hn : fs.length = n) (h : ∀ k, k < m → ∀ j, j < n → ∀ x y, ts[k]? = some x → fs[j]? = some y → x.print = y.print → x.text = y.text) : ¬ Clash ts fs := by
  rintro ⟨x, hx, y, hy, e, hne⟩
  obtain ⟨k, hk⟩ := List.mem_iff_getElem?.1 hx
  obtain ⟨j, hj⟩ := List.mem_iff_getElem?.1 hy
  exact hne (h k (by rw [← hm]; exact (List.getElem?_eq_some_iff.1 hk).1) j (by rw [← hn]; exact (List.getElem?_eq_some_iff.1 hj).1) x y hk hj e)

set_option maxHeartbeats 2000000 in
set_option maxRecDepth 100000 in
theorem laws_FnSyncRoot_c (v : Value) (l : List Int) (w : World) (h : Rd encU 1 w w.heap.size v l) (hl : ∀ x ∈ l, 0 ≤ x ∧ x ≤ 255) (hg : Glob w) (hm : Mx w) :
    Calls Tryz.prog 11 #[v] w fun e w' => e = .returned (.bool true) ∧ Below w.heap.size w w' := by
  obtain ⟨n0, hn0⟩ : ∃ n, l.length = n := ⟨_, rfl⟩
  obtain ⟨a, c, rfl, _, _, _⟩ := Rd.openN h (fun _ => rfl) hn0
  have HG0 := hid hg
  have HM0 := hid hm
  clear hg hm
  by_cases hbig : 1048576 < n0
  · go_enter Tryz.func11, Tryz.ntmps11
    go_wp2
    go_ret
    exact ⟨rfl, Below.refl _ _⟩
  go_enter Tryz.func11, Tryz.ntmps11
  go_wp2_with fail
  refine (spec_DrawSyncRoot_c _ l w h hl).mono ?_
  rintro e w1 ⟨tv, fv, ts, fs, root, rfl, ht, hf, hts, hfs, b1⟩
  obtain ⟨m, hm⟩ : ∃ m, ts.length = m := ⟨_, rfl⟩
  obtain ⟨n, hn⟩ : ∃ n, fs.length = n := ⟨_, rfl⟩
  obtain ⟨ta, tc, rfl, _, _, ht3⟩ := ht.pcs hm
  obtain ⟨fa, fc, rfl, _, _, hf3⟩ := hf.pcs hn
  have HT3 := hid ht3
  have HF3 := hid hf3
  have HT : Hid (∀ wx, Below w1.heap.size w1 wx → Pcs wx wx.heap.size (.slice ta m tc) ts) := hid fun wx hx => ht.on hx
  have HF : Hid (∀ wx, Below w1.heap.size w1 wx → Pcs wx wx.heap.size (.slice fa n fc) fs) := hid fun wx hx => hf.on hx
  have HTS := hid hts
  have HFS := hid hfs
  have HG : Hid (∀ wx, Below w1.heap.size w1 wx → Glob wx) := hid fun wx hx => (HG0.out.on b1).on hx
  have HM : Hid (∀ wx, Below w1.heap.size w1 wx → Mx wx) := hid fun wx hx => (HM0.out.on b1).on hx
  have r0 : Below w1.heap.size w1 w1 := Below.refl _ _
  have hm41 : m ≤ 41 := by rw [← hm]; exact hts.2
  have hn41 : n ≤ 41 := by rw [← hn]; exact hfs.2
  have HMM := hid hm
  have HNN := hid hn
  obtain ⟨⟨X, Z⟩, hR⟩ : ∃ R, syncOf ts fs root = R := ⟨_, rfl⟩
  have HR := hid hR
  have hZ := sync_many hR
  obtain ⟨q, hq⟩ : ∃ q, X.length = q := ⟨_, rfl⟩
  have HQ := hid hq
  clear h hl hn0 ht hf ht3 hf3 hts hfs hm hn hR hq
  go_wp2_with fail
  refine (impl_SyncRoot_c _ _ ts fs root X Z HR.out _ (HT.out _ r0) (HF.out _ r0) (HG.out _ r0)).mono ?_
  rintro e w2 ⟨xv, rfl, o2, b2⟩
  obtain ⟨xa, xc, rfl, _, _, _⟩ := (Rd.of_own o2).pcs HQ.out
  have X2 := hid (Rd.of_own o2)
  clear o2
  go_wp2_with fail
  refine (spec_SyncRoot_c _ _ ts fs root X Z HR.out _ (HT.out _ b2) (HF.out _ b2) HTS.out.1 (by have := HTS.out.2; omega) HFS.out.1 (by have := HFS.out.2; omega)).mono ?_
  rintro e w3 ⟨yv, rfl, o3, b3⟩
  have d3 := bl_then b2 b3
  have X3 := hid (X2.out.on b3)
  have Y3 := hid (Rd.of_own o3)
  clear o3 b2 b3 X2
  go_wp2_with fail
  refine (laws_samePieces_s _ _ X _ _ _ X3.out Y3.out).mono ?_
  rintro e w4 ⟨rfl, z4, rfl⟩
  obtain ⟨W4, hW4⟩ : ∃ W4, W4 = w3.drewN z4 := ⟨_, rfl⟩
  have D4 : Hid (Below w1.heap.size w1 W4) := hid (by rw [hW4]; exact bl_drewN d3 z4)
  have X4 := hid (show Pcs W4 W4.heap.size (.slice xa q xc) X by rw [hW4]; exact X3.out.drewN z4)
  have d14 := bl_then b1 D4.out
  rw [← hW4]
  clear d3 X3 Y3 hW4
  by_cases hon : storeOk ts = true ∧ storeOk fs = true
  · obtain ⟨X', many, e1, hXo, hXl, hfull⟩ := lw_sync (root := root) hon.1 hon.2
    rw [HR.out] at e1
    simp only [Prod.mk.injEq] at e1
    obtain ⟨rfl, rfl⟩ := e1
    have HXO := hid hXo
    have HFULL := hid hfull
    rw [HQ.out, HMM.out] at hXl
    have hm0 : ¬ ((many : Int) < 0) := by omega
    have hwr : IntKind.i64.wrap ((m : Int) + (many : Int)) = ((m + many : Nat) : Int) := by rw [IntWalk.i64_in _ (by omega)]; omega
    clear hon hXo hfull
    by_cases hqe : q = m + many
    · have hqd : ((q : Int) == ((m + many : Nat) : Int)) = true := by simp [hqe]
      have hqd2 : (q : Int) = (m : Int) + (many : Int) := by omega
      have HQE := hid hqe
      clear hqe
      go_wp2
      go_loopw [10, 11] (fun kv _ wr => ∃ k z : Nat, k ≤ m ∧ kv = .int .i64 k ∧ Hid (∀ k', k' < k → ∀ j, j < n → ∀ x y, ts[k']? = some x → fs[j]? = some y → x.print = y.print → x.text = y.text) ∧ wr = W4.drewN z) (fun kv _ _ => m - (intOf kv).toNat)
      case atStart => exact ⟨0, 0, Nat.zero_le _, rfl, hid (fun k' h => by omega), rfl⟩
      case round =>
        obtain ⟨k, z, hk, rfl, hcl, rfl⟩ := hrel
        by_cases hlt : k < m
        · obtain ⟨b, o, r, t, rfl, hbl, hx, k0', k1'⟩ := HT3.out k hlt
          have k0 := (D4.out.cell (p := ⟨b, o + k * 2, none⟩) hbl).trans k0'
          have k1 := (D4.out.cell (p := ⟨b, o + k * 2 + 1, none⟩) hbl).trans k1'
          have hkm : (k : Int) < m := by omega
          clear k0' k1'
          go_wp2
          go_loopw [11] (fun jv wr => ∃ j z : Nat, j ≤ n ∧ jv = .int .i64 j ∧ Hid (∀ j', j' < j → ∀ y, fs[j']? = some y → r = y.print → t = y.text) ∧ wr = W4.drewN z) (fun jv _ => n - (intOf jv).toNat)
          case atStart => exact ⟨0, z, Nat.zero_le _, rfl, hid (fun j' h => by omega), rfl⟩
          case round =>
            obtain ⟨j, z2, hj, rfl, hcj, rfl⟩ := hrel
            by_cases hjl : j < n
            · obtain ⟨b', o', r', t', rfl, hbl', hx', j0', j1'⟩ := HF3.out j hjl
              have j0 := (D4.out.cell (p := ⟨b', o' + j * 2, none⟩) hbl').trans j0'
              have j1 := (D4.out.cell (p := ⟨b', o' + j * 2 + 1, none⟩) hbl').trans j1'
              have hjn : (j : Int) < n := by omega
              clear j0' j1'
              obtain ⟨rp, hrp⟩ : ∃ rp, (r == r') = rp := ⟨_, rfl⟩
              have hse := str_eqE (u := t) (t := t')
              obtain ⟨dp, hdp⟩ : ∃ dp, decide (t = t') = dp := ⟨_, rfl⟩
              have HDP := hid hdp
              have HRP := hid hrp
              rw [hdp] at hse
              clear hdp
              have HC1 : rp = false ∨ dp = true → Hid (∀ j', j' < j + 1 → ∀ y, fs[j']? = some y → r = y.print → t = y.text) := fun hh => hid (fun j' hj' y hy hr => by
                rcases Nat.lt_succ_iff_lt_or_eq.1 hj' with h1 | h1
                · exact hcj.out j' h1 y hy hr
                · subst h1
                  rw [hx'.out] at hy
                  obtain rfl := Option.some.inj hy
                  simp only at hr ⊢
                  rcases hh with h2 | h2
                  · have h3 := HRP.out; rw [h2, hr] at h3; simp at h3
                  · have h3 := HDP.out; rw [h2] at h3; exact of_decide_eq_true h3)
              cases rp
              · have HC2 := HC1 (.inl rfl)
                clear HC1
                go_wp2
                go_quiet (fail)
                go_wp2
                go_roundw
                case rel => exact ⟨j + 1, _, by omega, by go_num, HC2, rfl⟩
                case measure => simp [intOf]; omega
              · cases dp
                · have d5 := bl_drewN d14 (z2 + 1)
                  clear HC1
                  go_wp2
                  go_quiet (fail)
                  go_wp2_with (go_at_call 21; refine (laws_alive_c _).mono ?_; rintro e w99 ⟨rfl, rfl⟩)
                  go_ret
                  exact ⟨rfl, bl_drewN d14 _⟩
                · have HC2 := HC1 (.inr rfl)
                  clear HC1
                  go_wp2
                  go_quiet (fail)
                  go_wp2
                  go_roundw
                  case rel => exact ⟨j + 1, _, by omega, by go_num, HC2, rfl⟩
                  case measure => simp [intOf]; omega
            · have HC3 := hid (show ∀ k', k' < k + 1 → ∀ j, j < n → ∀ x y, ts[k']? = some x → fs[j]? = some y → x.print = y.print → x.text = y.text from fun k' hk' j' hj' x y hx1 hy1 e => by
                rcases Nat.lt_succ_iff_lt_or_eq.1 hk' with h1 | h1
                · exact hcl.out k' h1 j' hj' x y hx1 hy1 e
                · subst h1
                  rw [hx.out] at hx1
                  obtain rfl := Option.some.inj hx1
                  exact hcj.out j' (by omega) y hy1 e)
              go_wp2
              go_roundw
              case rel => exact ⟨k + 1, _, by omega, by go_num, HC3, rfl⟩
              case measure => simp [intOf]; omega
        · have hnc : ¬ Clash ts fs := no_clash HMM.out HNN.out (fun k' hk' => hcl.out k' (by omega))
          obtain ⟨hz, hkp⟩ := HFULL.out (by rw [HQ.out, HMM.out]; exact HQE.out) hnc
          obtain ⟨⟨Y, z0⟩, hY⟩ : ∃ R, syncOf X fs root = R := ⟨_, rfl⟩
          rw [hY] at hz
          obtain rfl : z0 = 0 := hz
          have HY := hid hY
          have HKP := hid hkp
          have dz : Below W4.heap.size W4 (W4.drewN z) := bl_drewN (Below.refl _ _) z
          have d5 := bl_then D4.out dz
          have X5 := hid (X4.out.on dz)
          clear hnc hkp hY dz hcl
          go_wp2_with fail
          refine (impl_SyncRoot_c _ _ X fs root Y 0 HY.out _ X5.out (HF.out _ d5) (HG.out _ d5)).mono ?_
          rintro e w6 ⟨yv, rfl, o6, b6⟩
          have d6 := bl_then d5 b6
          have X6 := hid (X5.out.on b6)
          clear o6
          go_wp2_with fail
          refine (impl_StoreValid_c _ X _ X6.out).mono ?_
          rw [HXO.out]
          rintro e w7 ⟨rfl, b7⟩
          have d7 := bl_then d6 b7
          have X7 := hid (X6.out.on b7)
          go_wp2_with fail
          refine (laws_keepsFiles_c _ _ fs X root _ HKP.out (HF.out _ d7) X7.out (HG.out _ d7) (HM.out _ d7)).mono ?_
          rintro e w8 ⟨rfl, b8⟩
          have d8 := bl_then b1 (bl_then d7 b8)
          go_wp2
          go_ret
          exact ⟨rfl, d8⟩
    · have hqd : ((q : Int) == ((m + many : Nat) : Int)) = false := by simp; omega
      have hqd2 : ¬ (q : Int) = (m : Int) + (many : Int) := by omega
      have hql : (q : Int) < (m : Int) + (many : Int) := by omega
      clear hqe
      go_wp2_with fail
      refine (impl_StoreValid_c _ X _ X4.out).mono ?_
      rw [HXO.out]
      rintro e w7 ⟨rfl, b7⟩
      have d7 := bl_then d14 b7
      go_wp2
      go_ret
      exact ⟨rfl, d7⟩
  · have e1 := syncOf_off (root := root) hon
    rw [HR.out] at e1
    simp only [Prod.mk.injEq] at e1
    obtain ⟨rfl, rfl⟩ := e1
    obtain rfl : q = 0 := HQ.out.symm
    clear hon
    go_wp2_with (go_at_call 21; refine (laws_alive_c _).mono ?_; rintro e w99 ⟨rfl, rfl⟩)
    go_ret
    exact ⟨rfl, d14⟩

end Go.Proofs.YtachfmlfmpaddaaGreatDoor
