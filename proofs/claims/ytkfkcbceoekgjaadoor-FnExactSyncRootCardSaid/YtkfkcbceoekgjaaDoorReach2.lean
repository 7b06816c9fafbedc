/- Walks: what roots reach, the program's way: the whole. -/
import Derived.Test.YtkfkcbceoekgjaaDoorReach
namespace Go.Proofs.YtkfkcbceoekgjaaDoor
open Go.RowKit

theorem todo_le {A : List Bool} {todo : List Nat} {m : Nat} (h : reachMu (A, todo) ≤ m) : todo.length ≤ m := by simp only [reachMu] at h; omega
theorem nil_or_snoc {α : Type} (l : List α) : l = [] ∨ ∃ (t : List α) (i : α), l = t ++ [i] := by
  rcases List.eq_nil_or_concat l with h | ⟨t, x, h⟩
  · exact .inl h
  · exact .inr ⟨t, x, by simpa using h⟩
theorem hmf_c (fn : Fn) (first cap : Array Value) (w : World) : (Instr.makeFunc fn first cap).run Tryd.prog w = .ok (.func fn first cap) w := rfl
theorem drop_at {α : Type} {xs : List α} {k : Nat} {x : α} (h : xs[k]? = some x) : xs.drop k = x :: xs.drop (k + 1) := by
  obtain ⟨h1, h2⟩ := List.getElem?_eq_some_iff.1 h
  rw [List.drop_eq_getElem_cons h1, h2]

set_option maxHeartbeats 2000000 in
set_option maxRecDepth 100000 in
theorem impl_reachedPieces_c (v u : Value) (xs : List Pc) (rts : List Int) (w : World) (h : Pcs w w.heap.size v xs) (h' : Ints w w.heap.size u rts) (hs : storeOk xs = true) (hl : rts.length ≤ 1048576) (hg : Glob w) :
    Calls Tryd.prog 55 #[v, u] w fun e w' => ∃ v', e = .returned v' ∧ OwnB w' w.heap.size v' (reachB xs rts) ∧ Below w.heap.size w w' := by
  obtain ⟨n, hn⟩ : ∃ n, xs.length = n := ⟨_, rfl⟩
  obtain ⟨a, c, rfl, _, _, hp3⟩ := h.pcs hn
  obtain ⟨q, hq⟩ : ∃ q, rts.length = q := ⟨_, rfl⟩
  obtain ⟨a', c', rfl, _, _, hi3⟩ := h'.ints hq
  have hn40 : n ≤ 40 := by have := (st_in hs).1; omega
  have HP : Hid (∀ wx, Below w.heap.size w wx → Pcs wx wx.heap.size (.slice a n c) xs) := fun wx hx' => h.on hx'
  have HX := hid (fun (x : Pc) (hx : x ∈ xs) => show x.text.size ≤ 1048576 by have := textOk_size (pcOk_iff.1 (st_all hs hx)).1; omega)
  have HP3 := hid hp3
  have HI3 := hid hi3
  have HS := hid hs
  have HN := hid hn
  have HQ := hid hq
  have HG := hid hg
  rw [hq] at hl
  obtain ⟨i0, hi, hz0, hz1, hz2⟩ := info_parts info_bool
  have b0 : Below w.heap.size w (w.alloc (.cells #[.slice a n c] 26)) := (Below.refl _ _).alloc (Nat.le_refl _) _
  have v0 : (w.alloc (.cells #[.slice a n c] 26)).heap[w.heap.size]? = some (.cells #[.slice a n c] 26 (0, 0)) := heap_alloc_new _ _
  have B0 := hid b0
  have V0 := hid v0
  clear b0 v0
  have hmf := hmf_c
  clear hp3 hi3 hs hn hq hg h h'
  go_enter Tryd.func55, Tryd.ntmps55
  go_wp2_with (at_make; refine wpList_make_full _ rfl _ _ 65 rfl (w.heap.size + 1) 4 i0 (.bool false) 1 Tryd.underlying65 hi hz0 hz1 _ _ _ _ n rfl rfl rfl rfl ?b2 ?b3 ?b4 ?_)
  case b2 => rw [hz2]; omega
  case b3 => unfold maxLen; omega
  case b4 => simp
  intro w1 o1 g1
  have b1 : Below w.heap.size w w1 := B0.out.grown g1 B0.out.size (by simp)
  have b1' : Below (w.heap.size + 1) (w.alloc (.cells #[.slice a n c] 26)) w1 := (Below.refl _ _).grown g1 (by simp) (by simp)
  have v1 := (b1'.block _ (Nat.lt_succ_self _)).trans V0.out
  have q1 : OwnB w1 (w.heap.size + 1) (.slice (some ⟨(w.heap.size + 1), 0, none⟩) n n) (List.replicate n false) := by
    unfold OwnB Own
    rw [List.length_replicate, ← made_flat (enc := encB) (.bool false) false rfl n]
    exact o1
  have l1 : w.heap.size + 1 < w1.heap.size := (q1.lt _ rfl).2
  obtain ⟨W3, hW3⟩ : ∃ W3, W3 = (w1.alloc (.cells #[.slice (some ⟨(w.heap.size + 1), 0, none⟩) n n] 65)).alloc (.cells #[.slice none 0 0] 24) := ⟨_, rfl⟩
  have hR : RVars W3 w.heap.size (w.heap.size + 1) w1.heap.size (w1.heap.size + 1) a n c (List.replicate n false) (.slice none 0 0) [] := by
    have b2 : Below w1.heap.size w1 W3 := by rw [hW3]; exact ((Below.refl _ _).alloc (Nat.le_refl _) _).alloc (by simp) _
    refine ⟨(b2.block _ (lt_of_block v1)).trans v1, ?_, q1.on b2, ?_, Own.nil_, Nat.lt_succ_self _, l1, Nat.lt_succ_self _⟩
    · rw [hW3]
      have : (w1.alloc (.cells #[.slice (some ⟨(w.heap.size + 1), 0, none⟩) n n] 65)).heap[w1.heap.size]? = some (.cells #[.slice (some ⟨(w.heap.size + 1), 0, none⟩) n n] 65 (0, 0)) := heap_alloc_new _ _
      exact (((Below.refl _ _).alloc (Nat.le_refl _) (.cells #[.slice none 0 0] 24)).block _ (lt_of_block this)).trans this
    · rw [hW3]
      have := heap_alloc_new (w1.alloc (.cells #[.slice (some ⟨(w.heap.size + 1), 0, none⟩) n n] 65)) (.cells #[.slice none 0 0] 24)
      simpa using this
  have b3 : Below w.heap.size w W3 := by rw [hW3]; exact (b1.alloc b1.size _).alloc (by simp; exact Nat.le_succ_of_le b1.size) _
  have HD0 := hid (dinv_start (l := xs) (roots := rts))
  have HB1 := hid b1.size
  clear o1 g1 hi hz0 hz1 hz2 v1 q1 b1 b1'
  go_wp2
  rw [← hW3]
  go_loopw [21] (fun iv wr => ∃ (k : Nat) (A : List Bool) (todo : List Nat) (tv : Value), k ≤ q ∧ iv = .int .i64 k ∧ RVars wr w.heap.size (w.heap.size + 1) w1.heap.size (w1.heap.size + 1) a n c A tv todo ∧ Hid (DInv xs rts A todo (rts.drop k)) ∧ reachMu (A, todo) ≤ 2 * n ∧ Below w.heap.size w wr) (fun iv _ => q - (intOf iv).toNat)
  case atStart => exact ⟨0, _, [], _, Nat.zero_le _, rfl, hR, by have := HD0.out; rw [HN.out] at this; exact hid this, by simp [reachMu], b3⟩
  case round =>
    obtain ⟨k, A, todo, tv, hk, rfl, hRv, hD, hmu, hb⟩ := hrel
    clear hR b3 hW3
    by_cases hlt : k < q
    · obtain ⟨b, o, y, rfl, hbl, hx, k0⟩ := HI3.out k hlt
      have j0 := (hb.cell (p := ⟨b, o + k, none⟩) hbl).trans k0
      have HDr := hid (drop_at hx.out)
      have HRv := hid hRv
      have HMu := hid hmu
      clear k0 hRv hmu
      go_wp2_with fail
      refine (reach_c w.heap.size (w.heap.size + 1) w1.heap.size (w1.heap.size + 1) n c a xs y A tv todo _ (HP.out _ hb) HS.out HN.out (hD.out.len.trans HN.out) HRv.out (by have := todo_le HMu.out; omega)).mono ?_
      rintro e w4 ⟨rfl, A', todo', tv', hst, hRv', hF, _⟩
      have hD' : Hid (DInv xs rts A' todo' (rts.drop (k + 1))) := by
        have h1 := hD.out
        rw [HDr.out] at h1
        have := dinv_step HS.out h1
        rw [hst] at this
        exact this
      have hmu' : reachMu (A', todo') ≤ 2 * n := by
        have := reachMu_step xs y (A, todo)
        rw [hst] at this
        exact Nat.le_trans this HMu.out
      have hb' : Below w.heap.size w w4 := hb.trans (hF.below (fun g e => by
        have hl := HRv.out.lt
        rcases e with e | e | e
        · omega
        · omega
        · have := (HRv.out.own.lt g e).1; omega) hb.size)
      clear hst hF hD hb
      go_wp2
      go_roundw
      case rel => exact ⟨k + 1, A', todo', tv', by omega, by go_num, hRv', hD', hmu', hb'⟩
      case measure => simp [intOf]; omega
    · have HD1 := hid (show DInv xs rts A todo [] by have := hD.out; rw [List.drop_eq_nil_of_le (by rw [HQ.out]; omega)] at this; exact this)
      have HMu := hid hmu
      have HRv := hid hRv
      clear hD hmu hRv
      go_wp2
      go_loopg [10] (2 * n) (fun gk s10 wr2 => ∃ (A : List Bool) (todo : List Nat) (tv : Value), RVars wr2 w.heap.size (w.heap.size + 1) w1.heap.size (w1.heap.size + 1) a n c A tv todo ∧ Hid (DInv xs rts A todo []) ∧ reachMu (A, todo) ≤ gk ∧ gk ≤ 2 * n ∧ Below w.heap.size w wr2)
      case atStart => exact ⟨A, todo, tv, HRv.out, HD1, HMu.out, Nat.le_refl _, hb⟩
      case round =>
        obtain ⟨A, todo, tv, hRv, hD, hmu, hgk, hb⟩ := hrel
        have HRv := hid hRv
        have c3 := cell_of_one hRv.vt
        rcases nil_or_snoc todo with rfl | ⟨t0, i, rfl⟩
        · obtain ⟨at', ct', rfl, _, _, _⟩ := (Rd.of_own hRv.own).ints (n := 0) rfl
          have c5 := cell_of_one hRv.vr
          have HE := hid (dinv_end HS.out hD.out)
          have hlt0 := hRv.lt
          clear hRv hD hmu
          go_wp2
          go_ret
          exact ⟨_, rfl, by rw [← HE.out]; exact HRv.out.row.less (by omega), hb⟩
        · obtain ⟨m, hm⟩ : ∃ m, t0.length = m := ⟨_, rfl⟩
          have hlen : (nats (t0 ++ [i])).length = m + 1 := by simp [hm]
          rcases hRv.own.2 with ⟨_, h00⟩ | ⟨g, cap, cur, htv, hge, hh, hnc, hcm, hcs, htk⟩
          · omega
          rw [hlen] at htv hnc
          subst htv
          have own1 : wr.ownsRow (w1.heap.size + 1 + 1) 3 1 (.slice (some ⟨g, 0, none⟩) (m + 1) cap) (m + 1) ((nats t0).flatMap encI ++ [.int .i64 (i : Int)]) := by
            have := hRv.own
            unfold OwnI Own at this
            rw [hlen] at this
            simpa [nats, encI] using this
          have hfl : ((nats t0).flatMap encI).length = m * 1 := by rw [← List.map_eq_flatMap]; simp [nats, hm]
          have d0 : wr.cell? ⟨g, m, none⟩ = some (.int .i64 (i : Int)) := (own1.cellAt m (by omega)).trans (by rw [List.getElem?_append_right (by omega), hfl]; simp)
          have own2 := ownsRow_pop hfl own1
          have hAi := hD.out.tin i (by simp)
          have hin : i < n := by have := (List.getElem?_eq_some_iff.1 hAi).1; have := hD.out.len; have := HN.out; omega
          obtain ⟨b, o, pr, t, rfl, hbl, hx, _, k1⟩ := HP3.out i hin
          have f3 := free_of_one hRv.vt
          obtain ⟨l1, l2, l3⟩ := hRv.lt
          obtain ⟨W4, hW4⟩ : ∃ W4, W4 = wr.setCell ⟨w1.heap.size + 1, 0, none⟩ (.slice (some ⟨g, 0, none⟩) m cap) := ⟨_, rfl⟩
          have F4 : Frm (fun k => k = w1.heap.size + 1) wr W4 := by rw [hW4]; exact Frm.set (S := fun k => k = w1.heap.size + 1) rfl _
          have hRv4 : RVars W4 w.heap.size (w.heap.size + 1) w1.heap.size (w1.heap.size + 1) (some ⟨b, o, none⟩) n c A (.slice (some ⟨g, 0, none⟩) m cap) t0 := by
            refine ⟨(F4.block _ (lt_of_block hRv.vs) (by omega)).trans hRv.vs, (F4.block _ (lt_of_block hRv.vr) (by omega)).trans hRv.vr, hRv.row.frm F4 (fun g hg e => by simp only [Value.ownBlock, Option.some.injEq] at hg; omega), by rw [hW4]; exact one_setCell hRv.vt, ?_, l1, l2, l3⟩
            have := ownsRow_setCell_below (a := ⟨w1.heap.size + 1, 0, none⟩) own2 (by show w1.heap.size + 1 < _; omega) (.slice (some ⟨g, 0, none⟩) m cap)
            rw [← hW4] at this
            unfold OwnI Own
            rw [show (nats t0).length = m by simp [hm]]
            exact this
          have hb4 : Below w.heap.size w W4 := hb.trans (F4.below (fun k e => by omega) hb.size)
          have e0 : (wr.setCell ⟨w1.heap.size + 1, 0, none⟩ (.slice (some ⟨g, 0, none⟩) m cap)).cell? ⟨w.heap.size, 0, none⟩ = some (.slice (some ⟨b, o, none⟩) n c) := by rw [← hW4]; exact cell_of_one hRv4.vs
          have e1 : (wr.setCell ⟨w1.heap.size + 1, 0, none⟩ (.slice (some ⟨g, 0, none⟩) m cap)).cell? ⟨b, o + i * 2 + 1, none⟩ = some (.string t) := by rw [← hW4]; exact (hb4.cell (p := ⟨b, o + i * 2 + 1, none⟩) hbl).trans k1
          have HD4 := hid (dinv_pop hD.out hx.out)
          have hmu4 : reachMu (A, t0) + 1 ≤ gk := by simp only [reachMu, List.length_append, List.length_cons, List.length_nil] at hmu ⊢; omega
          have HMu4 := hid hmu4
          have hm80 : m ≤ 80 := by have := todo_le hmu; simp at this; omega
          have HRv4 := hid hRv4
          have HT := hid (HX.out _ (List.mem_of_getElem? hx.out))
          obtain ⟨es, hes⟩ : ∃ es, entsOf (bs t) = es := ⟨_, rfl⟩
          have HES := hid hes
          have hm3 := entsOf_len (bs t)
          rw [hes] at hm3
          obtain ⟨mm, hmm⟩ : ∃ mm, es.length = mm := ⟨_, rfl⟩
          have HM := hid hmm
          have hmm4 : mm ≤ 3 := by omega
          have HB4 := hid hb4
          have hgkp : 0 < gk := by omega
          clear hRv hD hmu hh hcm hcs htk own1 own2 hfl hAi k1 F4 hRv4 hmu4 hes hm3 hlen hm hge hb l1 l2 l3 hb4
          go_wp2_with fail
          rw [← hW4]
          refine (impl_ReadFolder_c t _ HT.out (HG.out.on HB4.out)).mono ?_
          rw [HES.out]
          rintro e w5 ⟨lv, rfl, o5, b5⟩
          have hRv5 := HRv4.out.on b5
          have hb5 := bl_then HB4.out b5
          have hlt5 := hid o5.lt
          have hpb : Hid (∀ g', Value.ownBlock (.slice (some ⟨g, 0, none⟩) m cap) = some g' → g' < W4.heap.size) := hid fun g' hg' => (HRv4.out.own.lt g' hg').2
          have hg34 : w1.heap.size + 1 < W4.heap.size := lt_of_block HRv4.out.vt
          have hsz5 := b5.size
          obtain ⟨la, lc, rfl, _, _, _⟩ := (Rd.of_own o5).ents hmm
          have HXP := hid (show prs ⟨pr, t⟩ = es.map (·.print) by unfold prs; rw [HES.out])
          clear hW4 b5 hmm c3 f3 d0 e0 e1
          go_wp2
          go_loopw [54] (fun iv wr3 => ∃ (j : Nat) (A' : List Bool) (todo' : List Nat) (tv' : Value), j ≤ mm ∧ iv = .int .i64 j ∧ RVars wr3 w.heap.size (w.heap.size + 1) w1.heap.size (w1.heap.size + 1) (some ⟨b, o, none⟩) n c A' tv' todo' ∧ Hid (DInv xs rts A' todo' ((es.map (·.print)).drop j)) ∧ reachMu (A', todo') + 1 ≤ gk ∧ OwnE wr3 W4.heap.size (.slice la mm lc) es ∧ Hid (∀ g', tv'.ownBlock = some g' → g' < W4.heap.size ∨ w5.heap.size ≤ g') ∧ Below w.heap.size w wr3 ∧ w5.heap.size ≤ wr3.heap.size) (fun iv _ => mm - (intOf iv).toNat)
          case atStart => exact ⟨0, A, t0, _, Nat.zero_le _, rfl, hRv5, by have := HD4.out; rw [HXP.out] at this; exact hid this, HMu4.out, o5, hid fun g' hg' => .inl (hpb.out g' hg'), hb5, Nat.le_refl _⟩
          case round =>
            obtain ⟨j, A', todo', tv', hj, rfl, hRv6, hD6, hmu6, hol, hpb6, hb6, hsz6⟩ := hrel
            clear o5 hRv5 hb5
            by_cases hjm : j < mm
            · obtain ⟨_, _, hv, _, _, hcs⟩ := (Rd.of_own hol).ents HM.out
              simp only [Value.slice.injEq] at hv
              obtain ⟨e1, _, e2⟩ := hv
              subst e1
              subst e2
              obtain ⟨eb, eo, nm, y, rfl, hebl, hex, c0, c1⟩ := hcs j hjm
              have HDr := hid (drop_at (show (es.map (·.print))[j]? = some y by rw [List.getElem?_map, hex.out]; rfl))
              obtain ⟨W7, hW7⟩ : ∃ W7, W7 = wr.alloc (.cells #[.string nm, .int .i64 y] 45) := ⟨_, rfl⟩
              have hbl7 : Below wr.heap.size wr W7 := by rw [hW7]; exact (Below.refl _ _).alloc (Nat.le_refl _) _
              have hRv7 := hid (hRv6.on hbl7)
              have hol7 := hid (hol.on hbl7)
              have hb7 := hid (bl_then hb6 hbl7)
              have HS7 := hid hbl7.size
              have HMu6 := hid hmu6
              clear hcs hRv6 hol hb6 hmu6 hbl7
              go_wp2_with fail
              rw [← hW7]
              refine (reach_c w.heap.size (w.heap.size + 1) w1.heap.size (w1.heap.size + 1) n c (some ⟨b, o, none⟩) xs y A' tv' todo' _ (HP.out _ hb7.out) HS.out HN.out (hD6.out.len.trans HN.out) hRv7.out (by have := todo_le (show reachMu (A', todo') ≤ gk by have := HMu6.out; omega); omega)).mono ?_
              rintro e w8 ⟨rfl, A8, todo8, tv8, hst, hRv8, hF, hnb⟩
              have hD8 : Hid (DInv xs rts A8 todo8 ((es.map (·.print)).drop (j + 1))) := by
                have h1 := hD6.out
                rw [HDr.out] at h1
                have := dinv_step HS.out h1
                rw [hst] at this
                exact this
              have hmu8 : reachMu (A8, todo8) + 1 ≤ gk := by
                have h1 := reachMu_step xs y (A', todo')
                rw [hst] at h1
                have := HMu6.out
                omega
              have hb8 : Below w.heap.size w w8 := hb7.out.trans (hF.below (fun g' e => by
                have hl := hRv7.out.lt
                rcases e with e | e | e
                · omega
                · omega
                · have := (hRv7.out.own.lt g' e).1; omega) hb7.out.size)
              have hol8 : OwnE w8 W4.heap.size (.slice (some ⟨eb, eo, none⟩) mm lc) es := hol7.out.frm hF (fun g' hg' e => by
                have h5 := hlt5.out g' hg'
                have hl := hRv7.out.lt
                rcases e with e | e | e
                · omega
                · omega
                · rcases hpb6.out g' e with h6 | h6
                  · omega
                  · omega)
              have hsz8 : w5.heap.size ≤ w8.heap.size := by have := hF.size; have := HS7.out; omega
              have hpb8 : Hid (∀ g', tv8.ownBlock = some g' → g' < W4.heap.size ∨ w5.heap.size ≤ g') := hid fun g' hg' => by
                rcases hnb g' hg' with h6 | h6
                · exact hpb6.out g' h6
                · have := HS7.out; exact .inr (by omega)
              clear hst hF hnb hD6
              go_wp2
              go_roundw
              case rel => exact ⟨j + 1, A8, todo8, tv8, by omega, by go_num, hRv8, hD8, hmu8, hol8, hpb8, hb8, hsz8⟩
              case measure => simp [intOf]; omega
            · have HD9 := hid (show DInv xs rts A' todo' [] by have := hD6.out; rw [List.drop_eq_nil_of_le (by rw [List.length_map, HM.out]; omega)] at this; exact this)
              go_wp2
              go_roundg (gk - 1)
              case measure => omega
              case rel => exact ⟨A', todo', tv', hRv6, HD9, by omega, by omega, hb6⟩

end Go.Proofs.YtkfkcbceoekgjaaDoor
