/- Walks and plain facts, joined: Lost. -/
import Derived.Test.YtfdhaigmekmboaaDoorMg7
import Derived.Test.YtfdhaigmekmboaaDoorMg8
set_option linter.unusedVariables false

/- Walks: what no root reaches. -/
namespace Go.Proofs.YtfdhaigmekmboaaDoor
open Go.RowKit

set_option maxHeartbeats 2000000 in
set_option maxRecDepth 100000 in
theorem impl_LostPrints_c (v u : Value) (xs : List Pc) (rts : List Int) (w : World) (h : Pcs w w.heap.size v xs) (h' : Ints w w.heap.size u rts) (hl : rts.length ≤ 1048576) (hg : Glob w) :
    Calls Tryd.prog 23 #[v, u] w fun e w' => ∃ v', e = .returned v' ∧ OwnI w' w.heap.size v' (lostOf xs rts) ∧ Below w.heap.size w w' := by
  obtain ⟨n, hn⟩ : ∃ n, xs.length = n := ⟨_, rfl⟩
  obtain ⟨a, c, rfl, _, _, h3⟩ := h.pcs hn
  have H3 := hid h3
  have HN := hid hn
  have HP : Hid (∀ wx, Below w.heap.size w wx → Pcs wx wx.heap.size (.slice a n c) xs) := fun wx hx' => h.on hx'
  have HI : Hid (∀ wx, Below w.heap.size w wx → Ints wx wx.heap.size u rts) := fun wx hx' => h'.on hx'
  have HL := hid hl
  have HG := hid hg
  clear hn h3 hl hg h'
  cases hok : storeOk xs
  · have HO := hid (lostOf_off (roots := rts) hok)
    go_enter Tryd.func23, Tryd.ntmps23
    go_wp2_with fail
    refine (impl_StoreValid_c _ xs _ h).mono ?_
    rw [hok]
    rintro e w1 ⟨rfl, b1⟩
    go_wp2
    go_ret
    exact ⟨_, rfl, by rw [HO.out]; exact Own.nil_, b1⟩
  · have HO := hid (lostOf_on (roots := rts) hok)
    have HK := hid hok
    have hn40 : n ≤ 40 := by have := (st_in hok).1; have := HN.out; omega
    go_enter Tryd.func23, Tryd.ntmps23
    go_wp2_with fail
    refine (impl_StoreValid_c _ xs _ h).mono ?_
    rw [hok]
    rintro e w0 ⟨rfl, b0⟩
    clear hok h
    go_wp2_with fail
    refine (impl_reachedPieces_c _ _ xs rts _ (HP.out _ b0) (HI.out _ b0) HK.out HL.out (HG.out.on b0)).mono ?_
    rintro e w1 ⟨rv, rfl, o1, b1'⟩
    have b1 := bl_then b0 b1'
    have hs1 := b1.size
    obtain ⟨a', c', rfl, _, _, h4⟩ := Rd.openN (Rd.of_own o1) (fun _ => rfl) (show (reachB xs rts).length = n by rw [reachB_len]; exact HN.out)
    have H4 := hid h4
    clear o1 b1' b0 h4
    go_wp2
    go_loopw [6, 17] (fun out iv wr => ∃ (k : Nat) (acc : List Int), k ≤ n ∧ iv = .int .i64 k ∧ OwnI wr w1.heap.size out acc ∧ Hid (acc = ((xs.take k).filter fun p => !inR xs rts p.print).map (·.print)) ∧ acc.length ≤ k ∧ Below w1.heap.size w1 wr) (fun _ iv _ => n - (intOf iv).toNat)
    case atStart => exact ⟨0, [], Nat.zero_le _, rfl, Own.nil_, rfl, Nat.zero_le _, Below.refl _ _⟩
    case round =>
      obtain ⟨k, acc, hk, rfl, hown, hacc, hlen, hb⟩ := hrel
      have c1 := bl_then b1 hb
      by_cases hkn : k < n
      · obtain ⟨b, o, pr, t, rfl, hbl, hx, k0, k1⟩ := H3.out k hkn
        have j0 := (c1.cell (p := ⟨b, o + k * 2, none⟩) hbl).trans k0
        have j1 := (c1.cell (p := ⟨b, o + k * 2 + 1, none⟩) hbl).trans k1
        obtain ⟨b', o', z, rfl, hbl', hz, hc'⟩ := H4.out k hkn
        have k2 : w1.cell? ⟨b', o' + k, none⟩ = some (.bool z) := by simpa using hc' 0 _ rfl
        have hzv : z = inR xs rts pr := by
          have := hz.out
          unfold reachB at this
          rw [List.getElem?_map, hx.out] at this
          simpa using this.symm
        have hal : Below w1.heap.size w1 (wr.alloc (.cells #[.int .i64 pr, .string t] 34)) := hb.alloc hb.size _
        have j2 : (wr.alloc (.cells #[.int .i64 pr, .string t] 34)).cell? ⟨b', o' + k, none⟩ = some (.bool z) := (hal.cell (p := ⟨b', o' + k, none⟩) hbl').trans k2
        have hown2 := hown.alloc (.cells #[.int .i64 pr, .string t] 34)
        have hB2 := hal.size
        have HF := hid (reach_succ (f := fun p => !inR xs rts p.print) hx.out)
        have HZ := hid hzv
        clear k0 k1 k2 hc' hzv hb hown
        cases z
        · have HS := hid (show ((xs.take (k + 1)).filter fun p => !inR xs rts p.print).map (·.print) = acc ++ [pr] by rw [HF.out, ← hacc.out]; simp only [← HZ.out]; simp)
          go_wp2_with (at_builtin; refine push_int (w0 := w1) rfl _ _ rfl _ _ _ _ _ hown2 hal hB2 (Nat.le_refl _) rfl (by simp [Act.eval]) (by omega) ?_; intro v' w' hown' hb' hB' _)
          go_roundw
          case rel => exact ⟨k + 1, _, by omega, by go_num, hown', hid HS.out.symm, by simp; omega, hb'⟩
          case measure => simp [intOf]; omega
        · have HS := hid (show ((xs.take (k + 1)).filter fun p => !inR xs rts p.print).map (·.print) = acc by rw [HF.out, ← hacc.out]; simp only [← HZ.out]; simp)
          go_wp2
          go_roundw
          case rel => exact ⟨k + 1, acc, by omega, by go_num, hown2, hid HS.out.symm, by omega, hal⟩
          case measure => simp [intOf]; omega
      · have HA := hid (show acc = lostOf xs rts by rw [HO.out, hacc.out, take_all HN.out (show n ≤ k by omega)])
        go_wp2
        go_ret
        exact ⟨_, rfl, by rw [← HA.out]; exact hown.less hs1, c1⟩


theorem impl_LostPrints_e (v u : Value) (xs : List Pc) (rts R : List Int) (hR : lostOf xs rts = R) (w : World) (h : Pcs w w.heap.size v xs) (h' : Ints w w.heap.size u rts) (hl : rts.length ≤ 1048576) (hg : Glob w) :
    Calls Tryd.prog 23 #[v, u] w fun e w' => ∃ v', e = .returned v' ∧ OwnI w' w.heap.size v' R ∧ Below w.heap.size w w' := hR ▸ impl_LostPrints_c v u xs rts w h h' hl hg

theorem inR_has {l : List Pc} {roots : List Int} {x : Pc} (hs : storeOk l = true) (hx : x ∈ l) : hasI (reachOf l roots) x.print = inR l roots x.print := by
  rw [Bool.eq_iff_iff, hasI_iff, reachOf_on hs, List.mem_map]
  constructor
  · rintro ⟨y, hy, e⟩
    have := (List.mem_filter.1 hy).2
    rw [e] at this
    exact this
  · intro h
    exact ⟨x, List.mem_filter.2 ⟨hx, h⟩, rfl⟩

set_option maxHeartbeats 2000000 in
set_option maxRecDepth 100000 in
theorem spec_LostPrints_c (v u : Value) (xs : List Pc) (rts : List Int) (w : World) (h : Pcs w w.heap.size v xs) (h' : Ints w w.heap.size u rts) (hx0 : ∀ x ∈ xs, x.text.size ≤ 1048576) (hl0 : xs.length ≤ 1048576) :
    Calls Tryd.prog 25 #[v, u] w fun e w' => ∃ v', e = .returned v' ∧ OwnI w' w.heap.size v' (lostOf xs rts) ∧ Below w.heap.size w w' := by
  obtain ⟨n, hn⟩ : ∃ n, xs.length = n := ⟨_, rfl⟩
  obtain ⟨a, c, rfl, _, _, h3⟩ := h.pcs hn
  have H3 := hid h3
  have HN := hid hn
  have HX := hid hx0
  have HL := hid hl0
  have HP : Hid (∀ wx, Below w.heap.size w wx → Pcs wx wx.heap.size (.slice a n c) xs) := fun wx hx' => h.on hx'
  have HI : Hid (∀ wx, Below w.heap.size w wx → Ints wx wx.heap.size u rts) := fun wx hx' => h'.on hx'
  have hn20 : n ≤ 1048576 := by omega
  obtain ⟨W1, hW1⟩ : ∃ W1, W1 = w.alloc (.cells #[] 3) := ⟨_, rfl⟩
  have hal : Below w.heap.size w W1 := by rw [hW1]; exact (Below.refl _ _).alloc (Nat.le_refl _) _
  have hown0 : OwnI W1 w.heap.size (.slice (some ⟨w.heap.size, 0, none⟩) 0 0) [] := by rw [hW1]; exact Own.made _ (Nat.le_refl _)
  clear hn h3 hx0 hl0 h h'
  go_enter Tryd.func25, Tryd.ntmps25
  go_wp2_with fail
  rw [← hW1]
  refine (spec_ReachOf_c _ _ xs rts _ (HP.out _ hal) (HI.out _ hal) HX.out HL.out).mono ?_
  rintro e w1 ⟨rv, rfl, o1, b1'⟩
  have b1 := bl_then hal b1'
  have hown1 := hown0.on b1'
  have hs1 := b1.size
  have hlt1 := hid o1.lt
  have hpb : Hid (∀ g, Value.ownBlock (.slice (some ⟨w.heap.size, 0, none⟩) 0 0) = some g → g < W1.heap.size) := hid fun g hg => (hown0.lt g hg).2
  obtain ⟨R, hR⟩ : ∃ R, reachOf xs rts = R := ⟨_, rfl⟩
  rw [hR] at o1
  have HRR := hid hR
  obtain ⟨q, hq⟩ : ∃ q, R.length = q := ⟨_, rfl⟩
  obtain ⟨ra, rc, rfl, _, _, _⟩ := (Rd.of_own o1).ints hq
  have hq40 : q ≤ 40 := by have := reachOf_len (l := xs) (roots := rts); rw [hR, hq] at this; exact this
  have HQ := hid hq
  clear hal hown0 hW1 b1' hR hq
  go_wp2
  cases hok : storeOk xs
  · have HK := hid hok
    have HO := hid (lostOf_off (roots := rts) hok)
    clear hok
    by_cases h0 : 0 < n
    · have h0' : (0 : Int) < n := by omega
      refine wp_loop_rounds 1 ?_
      rw [rounds_succ]
      go_wp2_with (go_at_call 30; refine (spec_StoreValid_c _ xs _ _ (HP.out _ b1) HX.out HL.out).mono ?_; rw [HK.out]; rintro e w' ⟨rfl, q, rfl⟩)
      go_ret
      exact ⟨_, rfl, by rw [HO.out]; exact hown1.drewN q, bl_drewN b1 q⟩
    · obtain rfl : n = 0 := by omega
      refine wp_loop_rounds 1 ?_
      rw [rounds_succ]
      go_wp2
      go_ret
      exact ⟨_, rfl, by rw [HO.out]; exact hown1, b1⟩
  have HK := hid hok
  have HO := hid (lostOf_on (roots := rts) hok)
  clear hok
  go_loopw [5, 7] (fun out i wr => ∃ (k : Nat) (acc : List Int), k ≤ n ∧ i = .int .i64 k ∧ OwnI wr w.heap.size out acc ∧ Hid (acc = ((xs.take k).filter fun p => !inR xs rts p.print).map (·.print)) ∧ acc.length ≤ k ∧ OwnI wr W1.heap.size (.slice ra q rc) R ∧ Hid (∀ g, out.ownBlock = some g → g < W1.heap.size ∨ w1.heap.size ≤ g) ∧ Below w.heap.size w wr ∧ w1.heap.size ≤ wr.heap.size) (fun _ i _ => n - (intOf i).toNat)
  case atStart => exact ⟨0, [], Nat.zero_le _, rfl, hown1, rfl, Nat.zero_le _, o1, hid fun g hg => .inl (hpb.out g hg), b1, Nat.le_refl _⟩
  case round =>
    obtain ⟨k, acc, hk, rfl, hown, hacc, hlen, hol, hpb2, hb, hsz⟩ := hrel
    clear o1 hown1 b1
    by_cases hlt : k < n
    · obtain ⟨b, o, r, t, rfl, hbl, hx, k0, k1⟩ := H3.out k hlt
      have HF := hid (reach_succ (f := fun p => !inR xs rts p.print) hx.out)
      have HB := hid hbl
      have HK0 := hid k0
      have hkn : (k : Int) < n := by omega
      obtain ⟨z, hz⟩ : ∃ z, inR xs rts r = z := ⟨_, rfl⟩
      have HZ := hid hz
      have HH := hid (show hasI R r = z by rw [← hz, ← HRR.out]; exact inR_has HK.out (List.mem_of_getElem? hx.out))
      clear k0 k1 hz
      go_wp2_with fail
      refine (spec_StoreValid_c _ xs _ _ (HP.out _ hb) HX.out HL.out).mono ?_
      rw [HK.out]
      rintro e w3 ⟨rfl, q3, rfl⟩
      obtain ⟨W3, hW3⟩ : ∃ W3, W3 = wr.drewN q3 := ⟨_, rfl⟩
      have hb3 : Below w.heap.size w W3 := by rw [hW3]; exact bl_drewN hb q3
      have hown3 := hown.drewN q3
      have hol3 := hol.drewN q3
      rw [← hW3] at hown3 hol3
      rw [← hW3]
      have hB3 := hb3.size
      have hsz3 : w1.heap.size ≤ W3.heap.size := by rw [hW3]; exact hsz
      have j0 := (hb3.cell (p := ⟨b, o + k * 2, none⟩) HB.out).trans HK0.out
      clear hW3 hown hol hb hsz
      go_wp2_with fail
      refine (spec_l19Has_c _ R r _ _ (Rd.of_own hol3)).mono ?_
      rw [HH.out]
      rintro e w4 ⟨rfl, rfl⟩
      cases z
      · have HS := hid (show ((xs.take (k + 1)).filter fun p => !inR xs rts p.print).map (·.print) = acc ++ [r] by rw [HF.out, ← hacc.out]; simp only [HZ.out]; simp)
        go_wp2_with (at_builtin; refine push_int (w0 := w) rfl _ _ rfl w.heap.size w.heap.size _ acc r hown3 hb3 hB3 (Nat.le_refl _) rfl rfl (by omega) ?_; intro v' w' hown' hb' hB' hg')
        go_roundw
        case rel =>
          have hsz4 : w1.heap.size ≤ w'.heap.size := by have := hg'.1.size; omega
          refine ⟨k + 1, _, by omega, by go_num, hown', hid HS.out.symm, by simp; omega, Own.kept hol3 hg'.1 ?_, hid fun g hg => ?_, hb', hsz4⟩
          · cases hra : (Value.slice ra q rc).ownBlock with
            | none => exact .inl rfl
            | some g =>
              refine .inr (fun e => ?_)
              have h5 := hlt1.out g hra
              rcases hpb2.out g e.symm with h6 | h6
              · omega
              · omega
          · rcases hg'.2 g hg with h6 | h6
            · exact hpb2.out g h6
            · exact .inr (by omega)
        case measure => simp [intOf]; omega
      · have HS := hid (show ((xs.take (k + 1)).filter fun p => !inR xs rts p.print).map (·.print) = acc by rw [HF.out, ← hacc.out]; simp only [HZ.out]; simp)
        go_wp2
        go_roundw
        case rel => exact ⟨k + 1, acc, by omega, by go_num, hown3, hid HS.out.symm, by omega, hol3, hpb2, hb3, hsz3⟩
        case measure => simp [intOf]; omega
    · have HA := hid (show acc = lostOf xs rts by rw [HO.out, hacc.out, take_all HN.out (show n ≤ k by omega)])
      go_wp2
      go_ret
      exact ⟨_, rfl, by rw [← HA.out]; exact hown, hb⟩

end Go.Proofs.YtfdhaigmekmboaaDoor
