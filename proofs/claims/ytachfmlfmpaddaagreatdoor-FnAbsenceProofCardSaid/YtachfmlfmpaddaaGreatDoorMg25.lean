/- Walks and plain facts, joined: ReachS, DropW, Lost. -/
import Derived.Test.YtachfmlfmpaddaaGreatDoorMg5
import Derived.Test.YtachfmlfmpaddaaGreatDoorMg8
import Derived.Test.YtachfmlfmpaddaaGreatDoorMg12
import Derived.Test.YtachfmlfmpaddaaGreatDoorMg13
import Derived.Test.YtachfmlfmpaddaaGreatDoorMg15
import Derived.Test.YtachfmlfmpaddaaGreatDoorMg22
import Derived.Test.YtachfmlfmpaddaaGreatDoorMg24
set_option linter.unusedVariables false
set_option linter.unusedSimpArgs false

/- Walks: what roots reach, the reference's way. -/
namespace Go.Proofs.YtachfmlfmpaddaaGreatDoor
open Go.RowKit

theorem cell_block {w w' : World} {p : Addr} (h : w'.heap[p.block]? = w.heap[p.block]?) : w'.cell? p = w.cell? p := World.cell?_of_block h
theorem Frm.draw {S : Nat → Prop} {a w : World} (h : Frm S a w) (q : Nat) : Frm S a (w.drewN q) :=
  h.trans (S' := S) (Frm.of_below (bl_drewN (Below.refl _ _) q)) (fun _ _ e => e)
theorem Frm.then {S : Nat → Prop} {a b c : World} (h : Frm S a b) (k : Below b.heap.size b c) : Frm S a c := h.trans (S' := S) (Frm.of_below k) (fun _ _ e => e)
theorem Frm.then' {S : Nat → Prop} {a b c : World} (h : Frm S a b) (k : Frm S b c) : Frm S a c := h.trans (S' := S) k (fun _ _ e => e)
theorem entsOf_off {l : List UInt8} (h : (readFolder l).isSome = false) : entsOf l = [] := by
  unfold entsOf
  cases hr : readFolder l with
  | none => rfl
  | some x => rw [hr] at h; cases h
/-- The marks behind the first round. -/
theorem round_one {l : List Pc} {roots : List Int} {A : List Bool} (hs : storeOk l = true) (hl : A.length = l.length) (h : ∀ (j : Nat) (x : Pc), l[j]? = some x → A[j]? = some (hasI roots x.print)) : RInv l roots A := by
  refine ⟨hl, ?_, ?_⟩
  · intro i x hi hx
    rw [h i x hx] at hi
    exact rch_root (hasI_iff.1 (Option.some.inj hi)) (has_mem (List.mem_of_getElem? hx))
  · intro y hy hp
    obtain ⟨x, hx, hxy⟩ := has_spot hs hp
    exact ⟨_, x, by rw [h _ x hx, hxy, hasI_iff.2 hy], hx, hxy⟩
/-- A row of marks, the first ones anew. -/
def mixY (l : List Pc) (y : Int) (A : List Bool) (i : Nat) : List Bool := (markY l y A).take i ++ A.drop i
theorem mixY_len {l : List Pc} {y : Int} {A : List Bool} (h : A.length = l.length) (i : Nat) (hi : i ≤ l.length) : (mixY l y A i).length = l.length := by
  unfold mixY; rw [List.length_append, List.length_take, List.length_drop, markY_len h]; omega
theorem mixY_zero (l : List Pc) (y : Int) (A : List Bool) : mixY l y A 0 = A := by simp [mixY]
theorem mixY_all {l : List Pc} {y : Int} {A : List Bool} {n i : Nat} (h : A.length = l.length) (hn : l.length = n) (hi : n ≤ i) : mixY l y A i = markY l y A := by
  unfold mixY
  rw [List.take_of_length_le (by rw [markY_len h]; omega), List.drop_eq_nil_of_le (by omega), List.append_nil]
theorem mixY_at {l : List Pc} {y : Int} {A : List Bool} {i : Nat} {b : Bool} (h : A.length = l.length) (hb : A[i]? = some b) : (mixY l y A i)[i]? = some b := by
  unfold mixY
  have hi := (List.getElem?_eq_some_iff.1 hb).1
  rw [List.getElem?_append_right (by rw [List.length_take]; omega), List.length_take, markY_len h, Nat.min_eq_left (by omega), Nat.sub_self, List.getElem?_drop, Nat.add_zero, hb]
theorem mixY_step {l : List Pc} {y : Int} {A : List Bool} {i : Nat} {b : Bool} {x : Pc} (h : A.length = l.length) (hb : A[i]? = some b) (hx : l[i]? = some x) : (mixY l y A i).set i (b || decide (x.print = y)) = mixY l y A (i + 1) := by
  have hi := (List.getElem?_eq_some_iff.1 hb).1
  have hm := markY_get (y := y) hb hx
  unfold mixY
  rw [List.set_append_right _ _ (by rw [List.length_take]; omega), List.length_take, markY_len h, Nat.min_eq_left (by omega), Nat.sub_self, take_snoc' hm, List.append_assoc]
  congr 1
  obtain ⟨h1, h2⟩ := List.getElem?_eq_some_iff.1 hb
  rw [List.drop_eq_getElem_cons h1]; rfl

set_option maxHeartbeats 2000000 in
set_option maxRecDepth 100000 in
theorem spec_ReachOf_c (v u : Value) (xs : List Pc) (rts : List Int) (w : World) (h : Pcs w w.heap.size v xs) (h' : Ints w w.heap.size u rts) (hx0 : ∀ x ∈ xs, x.text.size ≤ 1048576) (hl0 : xs.length ≤ 1048576) :
    Calls Tryz.prog 116 #[v, u] w fun e w' => ∃ v', e = .returned v' ∧ OwnI w' w.heap.size v' (reachOf xs rts) ∧ Below w.heap.size w w' := by
  obtain ⟨n, hn⟩ : ∃ n, xs.length = n := ⟨_, rfl⟩
  obtain ⟨a, c, rfl, _, _, h3⟩ := h.pcs hn
  have H3 := hid h3
  have HN := hid hn
  have HX1 := hid hx0
  have HL := hid hl0
  have HP : Hid (∀ wx, Below w.heap.size w wx → Pcs wx wx.heap.size (.slice a n c) xs) := fun wx hx' => h.on hx'
  have HI : Hid (∀ wx, Below w.heap.size w wx → Ints wx wx.heap.size u rts) := fun wx hx' => h'.on hx'
  obtain ⟨W1, hW1⟩ : ∃ W1, W1 = w.alloc (.cells #[] 3) := ⟨_, rfl⟩
  have hal : Below w.heap.size w W1 := by rw [hW1]; exact (Below.refl _ _).alloc (Nat.le_refl _) _
  have hown0 : OwnI W1 w.heap.size (.slice (some ⟨w.heap.size, 0, none⟩) 0 0) [] := by rw [hW1]; exact Own.made _ (Nat.le_refl _)
  have lt0 : w.heap.size < W1.heap.size := (hown0.lt _ rfl).2
  clear hn h h' hx0 h3
  cases hok : storeOk xs
  · have HO := hid (reachOf_off (roots := rts) hok)
    have HK := hid hok
    clear hok hl0
    go_enter Tryz.func116, Tryz.ntmps116
    go_wp2_with fail
    rw [← hW1]
    clear hW1
    refine (spec_StoreValid_c _ xs _ _ (HP.out _ hal) HX1.out HL.out).mono ?_
    rw [HK.out]
    rintro e w' ⟨rfl, q, rfl⟩
    go_wp2
    go_ret
    exact ⟨_, rfl, by rw [HO.out]; exact hown0.drewN q, bl_drewN hal q⟩
  · have HO := hid (reachOf_on (roots := rts) hok)
    have HK := hid hok
    have HX := hid (fun (x : Pc) (hx : x ∈ xs) => show x.text.size ≤ 1000000 by have := textOk_size (pcOk_iff.1 (st_all hok hx)).1; omega)
    have hn40 : n ≤ 40 := by have := (st_in hok).1; have := HN.out; omega
    obtain ⟨i0, hi, hz0, hz1, hz2⟩ := info_parts info_bool
    clear hok hl0
    go_enter Tryz.func116, Tryz.ntmps116
    go_wp2_with fail
    rw [← hW1]
    refine (spec_StoreValid_c _ xs _ _ (HP.out _ hal) HX1.out HL.out).mono ?_
    rw [HK.out]
    rintro e w' ⟨rfl, q, rfl⟩
    obtain ⟨W2, hW2⟩ : ∃ W2, W2 = W1.drewN q := ⟨_, rfl⟩
    have hb2 : Below w.heap.size w W2 := by rw [hW2]; exact bl_drewN hal q
    have hown2 := hown0.drewN q
    have lt2 : w.heap.size < W2.heap.size := by rw [hW2]; exact lt0
    rw [← hW2] at hown2
    rw [← hW2]
    clear hW1 hW2 hal hown0 lt0
    go_wp2_with (at_make; refine wpList_make_full _ rfl _ _ 102 rfl W2.heap.size 4 i0 (.bool false) 1 Tryz.underlying102 hi hz0 hz1 _ _ _ _ n rfl rfl rfl rfl ?b2 ?b3 (Nat.le_refl _) ?_)
    case b2 => rw [hz2]; omega
    case b3 => unfold maxLen; omega
    intro w3 o3 g3
    have q3 : OwnB w3 W2.heap.size (.slice (some ⟨W2.heap.size, 0, none⟩) n n) (List.replicate n false) := by
      unfold OwnB Own
      rw [List.length_replicate, ← made_flat (enc := encB) (.bool false) false rfl n]
      exact o3
    have hb3 : Below w.heap.size w w3 := hb2.grown g3 hb2.size (by simp)
    have hown3 : OwnI w3 w.heap.size (.slice (some ⟨w.heap.size, 0, none⟩) 0 0) [] := hown2.kept g3 (.inr (by simp [Value.ownBlock]))
    have HOUT := hid hown3
    have HB3 := hid hb3
    have LT2 := hid lt2
    have lt3 : W2.heap.size < w3.heap.size := (q3.lt _ rfl).2
    clear o3 g3 hi hz0 hz1 hz2 hown2 hown3 hb2 hb3 lt2
    have hbel : Hid (∀ wx, Frm (fun k => k = W2.heap.size) w3 wx → Below w.heap.size w wx) := hid fun wx hf => HB3.out.trans (hf.below (fun k e => by have := LT2.out; omega) HB3.out.size)
    have hcel : Hid (∀ (wx : World) (A : List Bool) (i : Nat) (b : Bool), OwnB wx W2.heap.size (.slice (some ⟨W2.heap.size, 0, none⟩) n n) A → A.length = n → A[i]? = some b → wx.cell? ⟨W2.heap.size, i, none⟩ = some (.bool b) ∧ wx.frozen? ⟨W2.heap.size, i, none⟩ = false) := hid fun wx A i b ho hA hb => by
      unfold OwnB Own at ho
      rw [hA] at ho
      have hi := (List.getElem?_eq_some_iff.1 hb).1
      have := flatMap_get (enc := encB) (fun _ => rfl) A i 0 _ _ hb rfl
      exact ⟨(ho.cellAt i (by omega)).trans (by simpa using this), ho.frozenAt i⟩
    have hsto : Hid (∀ (wx : World) (A : List Bool) (i : Nat) (b : Bool), OwnB wx W2.heap.size (.slice (some ⟨W2.heap.size, 0, none⟩) n n) A → A.length = n → OwnB (wx.setCell ⟨W2.heap.size, i, none⟩ (.bool b)) W2.heap.size (.slice (some ⟨W2.heap.size, 0, none⟩) n n) (A.set i b)) := hid fun wx A i b ho hA => by
      unfold OwnB Own at ho ⊢
      rw [List.length_set, hA, ← set_flatB]
      rw [hA] at ho
      exact (ho.stored i (.bool b)).1
    go_wp2
    go_loopw [7] (fun iv wr => ∃ (r : Nat) (A : List Bool), r ≤ n + 1 ∧ iv = .int .i64 r ∧ OwnB wr W2.heap.size (.slice (some ⟨W2.heap.size, 0, none⟩) n n) A ∧ A.length = n ∧ Hid (0 < r → RInv xs rts A ∧ (Cpl xs rts A ∨ r ≤ A.count true + 1)) ∧ Frm (fun k => k = W2.heap.size) w3 wr) (fun iv _ => n + 1 - (intOf iv).toNat)
    case atStart => exact ⟨0, _, by omega, rfl, q3, by simp, hid (fun h0 => absurd h0 (by omega)), Frm.refl _ _⟩
    case round =>
      obtain ⟨r, A0, hr, rfl, hrow, hA0, hinv, hfr⟩ := hrel
      clear q3
      by_cases hrn : r ≤ n
      · by_cases hr0 : r = 0
        · have hd1 : decide (r = 0) = true := by simp [hr0]
          have hd2 : (r == 0) = true := by simp [hr0]
          have HR0 := hid hr0
          clear hr0 hinv
          go_wp2
          go_loopw [8] (fun iv wr2 => ∃ (k : Nat) (A : List Bool), k ≤ n ∧ iv = .int .i64 k ∧ OwnB wr2 W2.heap.size (.slice (some ⟨W2.heap.size, 0, none⟩) n n) A ∧ A.length = n ∧ Hid (∀ (j : Nat) (x : Pc), j < k → xs[j]? = some x → A[j]? = some (hasI rts x.print)) ∧ Frm (fun k => k = W2.heap.size) w3 wr2) (fun iv _ => n - (intOf iv).toNat)
          case atStart => exact ⟨0, A0, Nat.zero_le _, rfl, hrow, hA0, hid (fun j x hj => absurd hj (by omega)), hfr⟩
          case round =>
            obtain ⟨k, A, hk, rfl, hrow2, hA, hdone, hfr2⟩ := hrel
            clear hrow hfr
            by_cases hkn : k < n
            · obtain ⟨b, o, pr, t, rfl, hbl, hx, k0, _⟩ := H3.out k hkn
              have hb4 := hbel.out _ hfr2
              have j0 := (hb4.cell (p := ⟨b, o + k * 2, none⟩) hbl).trans k0
              obtain ⟨z0, hAk⟩ : ∃ z, A[k]? = some z := ⟨_, List.getElem?_eq_getElem (by omega)⟩
              obtain ⟨d1, f1⟩ := hcel.out _ A k _ hrow2 hA hAk
              have HI4 := hid (HI.out _ hb4)
              have HSt := hid (hsto.out _ A k (hasI rts pr) hrow2 hA)
              have HF := hid (hfr2.then' (Frm.set (S := fun k => k = W2.heap.size) (i := k) rfl (.bool (hasI rts pr))))
              have HD := hid (show ∀ (j : Nat) (x : Pc), j < k + 1 → xs[j]? = some x → (A.set k (hasI rts pr))[j]? = some (hasI rts x.print) from fun j x hj hxj => by
                by_cases e : k = j
                · subst e
                  rw [hx.out] at hxj
                  obtain rfl := Option.some.inj hxj
                  rw [List.getElem?_set_self (by omega)]
                · rw [List.getElem?_set_ne e]; exact hdone.out j x (by omega) hxj)
              have HA := hid hA
              clear k0 hAk hb4 hrow2 hfr2 hA
              go_wp2_with (go_at_call 121; refine (spec_l19Has_c _ rts pr _ _ HI4.out).mono ?_; rintro e w' ⟨rfl, rfl⟩)
              go_roundw
              case rel => exact ⟨k + 1, _, by omega, by go_num, HSt.out, by rw [List.length_set, HA.out], HD, HF.out⟩
              case measure => simp [intOf]; omega
            · have HR := hid (round_one (roots := rts) HK.out (hA.trans HN.out.symm) (fun j x hx => hdone.out j x (by have := (List.getElem?_eq_some_iff.1 hx).1; have := HN.out; omega) hx))
              go_wp2
              go_roundw
              case rel => exact ⟨r + 1, A, by omega, by go_num, hrow2, hA, hid (fun _ => ⟨HR.out, .inr (by have := HR0.out; omega)⟩), hfr2⟩
              case measure => simp [intOf]; omega
        · have hr1 : 0 < r := by omega
          have HI1 := hid (hinv.out hr1)
          have hd1 : decide (r = 0) = false := by simp [hr0]
          have hd2 : (r == 0) = false := by simp [hr0]
          have HR0 := hid hr0
          clear hr0 hinv
          go_wp2
          go_loopw [8] (fun iv wr2 => ∃ (k : Nat) (A : List Bool), k ≤ n ∧ iv = .int .i64 k ∧ OwnB wr2 W2.heap.size (.slice (some ⟨W2.heap.size, 0, none⟩) n n) A ∧ A.length = n ∧ Hid (RInv xs rts A ∧ Up A0 A ∧ ∀ (i : Nat) (x : Pc), i < k → A0[i]? = some true → xs[i]? = some x → ∀ y ∈ prs x, hasP xs y = true → OnA A xs y) ∧ Frm (fun k => k = W2.heap.size) w3 wr2) (fun iv _ => n - (intOf iv).toNat)
          case atStart => exact ⟨0, A0, Nat.zero_le _, rfl, hrow, hA0, hid ⟨HI1.out.1, Up.rfl' _, fun i x hi => absurd hi (by omega)⟩, hfr⟩
          case round =>
            obtain ⟨k, A1, hk, rfl, hrow2, hA1, hin, hfr2⟩ := hrel
            clear hrow hfr
            by_cases hkn : k < n
            · obtain ⟨b, o, pr, t, rfl, hbl, hx, _, k1⟩ := H3.out k hkn
              have hb4 := hbel.out _ hfr2
              have j1 := (hb4.cell (p := ⟨b, o + k * 2 + 1, none⟩) hbl).trans k1
              have HT := hid (HX.out _ (List.mem_of_getElem? hx.out))
              obtain ⟨es, hes⟩ : ∃ es, entsOf (bs t) = es := ⟨_, rfl⟩
              have HES := hid hes
              have hm3 := entsOf_len (bs t)
              rw [hes] at hm3
              obtain ⟨m, hm⟩ : ∃ m, es.length = m := ⟨_, rfl⟩
              have HM := hid hm
              have hm4 : m ≤ 3 := by omega
              obtain ⟨f, hf⟩ : ∃ f, (readFolder (bs t)).isSome = f := ⟨_, rfl⟩
              have HF := hid hf
              have HFM := hid (show f = false → m = 0 from fun e => by rw [e] at hf; rw [← hm, ← hes, entsOf_off hf]; rfl)
              have hge := (hrow2.lt _ rfl).2
              have HA1 := hid hA1
              clear k1 hes hm3 hf hA1 hb4
              go_wp2_with fail
              refine (spec_ReadFolder_c t _ HT.out).mono ?_
              rw [HES.out, HF.out]
              rintro e w4 ⟨lv, rfl, o4, b4⟩
              have hrow4 := hrow2.on b4
              have hfr4 := hfr2.then b4
              obtain ⟨la, lc, rfl, _, _, _⟩ := (Rd.of_own o4).ents hm
              have hlt4 := hid o4.lt
              have O4 := hid o4
              obtain ⟨z, hz⟩ : ∃ z, A1[k]? = some z := ⟨_, List.getElem?_eq_getElem (by have := HA1.out; omega)⟩
              obtain ⟨d1, f1⟩ := hcel.out _ A1 k z hrow4 HA1.out hz
              have HZ := hid hz
              clear hm b4 hrow2 hfr2 j1 o4 hz
              cases z
              · have HRL := hid (show RInv xs rts A1 ∧ Up A0 A1 ∧ ∀ (i : Nat) (x : Pc), i < k + 1 → A0[i]? = some true → xs[i]? = some x → ∀ y ∈ prs x, hasP xs y = true → OnA A1 xs y from ⟨hin.out.1, hin.out.2.1, fun i x hi h0 hxi => by
                  by_cases e : i = k
                  · subst e
                    have := hin.out.2.1.2 i h0
                    rw [HZ.out] at this; cases this
                  · exact hin.out.2.2 i x (by omega) h0 hxi⟩)
                by_cases hm0 : 0 < m
                · go_wp2
                  refine wp_loop_rounds 1 ?_
                  rw [rounds_succ]
                  go_wp2
                  go_roundw
                  case rel => exact ⟨k + 1, A1, by omega, by go_num, hrow4, HA1.out, HRL, hfr4⟩
                  case measure => simp [intOf]; omega
                · have hd0 : decide (0 < m) = false := by simp; omega
                  go_wp2
                  refine wp_loop_rounds 1 ?_
                  rw [rounds_succ]
                  go_wp2
                  go_roundw
                  case rel => exact ⟨k + 1, A1, by omega, by go_num, hrow4, HA1.out, HRL, hfr4⟩
                  case measure => simp [intOf]; omega
              · have HXP := hid (show prs ⟨pr, t⟩ = es.map (·.print) by unfold prs; rw [HES.out])
                clear d1 f1
                go_wp2
                go_loopw [11] (fun iv wr3 => ∃ (j : Nat) (A : List Bool), j ≤ m ∧ iv = .int .i64 j ∧ OwnB wr3 W2.heap.size (.slice (some ⟨W2.heap.size, 0, none⟩) n n) A ∧ A.length = n ∧ Hid (RInv xs rts A ∧ Up A1 A ∧ ∀ y ∈ (es.map (·.print)).take j, hasP xs y = true → OnA A xs y) ∧ Frm (fun k => k = W2.heap.size) w4 wr3) (fun iv _ => m - (intOf iv).toNat)
                case atStart => exact ⟨0, A1, Nat.zero_le _, rfl, hrow4, HA1.out, hid ⟨hin.out.1, Up.rfl' _, fun y hy => by simp at hy⟩, Frm.refl _ _⟩
                case round =>
                  obtain ⟨j, A, hj, rfl, hrow5, hA, hin5, hfr5⟩ := hrel
                  clear hrow4
                  by_cases hjm : j < m
                  · have o5 := O4.out.frm hfr5 (fun g hg e => by have := (hlt4.out g hg).1; omega)
                    obtain ⟨_, _, hv, _, _, H5⟩ := (Rd.of_own o5).ents HM.out
                    simp only [Value.slice.injEq] at hv
                    obtain ⟨e1, _, e2⟩ := hv
                    subst e1
                    subst e2
                    obtain ⟨eb, eo, nm, y, rfl, hebl, hex, _, c1⟩ := H5 j hjm
                    have hAk := hin5.out.2.1.2 k HZ.out
                    obtain ⟨d1, f1⟩ := hcel.out _ A k true hrow5 hA hAk
                    have HY := hid (show (es.map (·.print)).take (j + 1) = (es.map (·.print)).take j ++ [y] from take_snoc' (x := y) (by rw [List.getElem?_map, hex.out]; rfl))
                    have hft : f = true := by
                      cases f
                      · have := HFM.out rfl; omega
                      · rfl
                    subst hft
                    have HA := hid hA
                    have HEB := hid (show W2.heap.size < eb by have := (hlt4.out eb rfl).1; omega)
                    have HC1 := hid c1
                    have HEL := hid hebl
                    clear H5 hAk c1 hA o5 hebl
                    go_wp2
                    go_loopw [12] (fun iv wr4 => ∃ (i : Nat), i ≤ n ∧ iv = .int .i64 i ∧ OwnB wr4 W2.heap.size (.slice (some ⟨W2.heap.size, 0, none⟩) n n) (mixY xs y A i) ∧ Frm (fun k => k = W2.heap.size) wr wr4) (fun iv _ => n - (intOf iv).toNat)
                    case atStart => exact ⟨0, Nat.zero_le _, rfl, by rw [mixY_zero]; exact hrow5, Frm.refl _ _⟩
                    case round =>
                      obtain ⟨i, hi, rfl, hrow6, hfr6⟩ := hrel
                      clear hrow5 d1 f1
                      have hAN : A.length = xs.length := HA.out.trans HN.out.symm
                      by_cases hin6 : i < n
                      · obtain ⟨b', o', pr', t', hbo, hbl', hx', k6, _⟩ := H3.out i hin6
                        simp only [Option.some.injEq, Addr.mk.injEq, and_true] at hbo
                        obtain ⟨rfl, rfl⟩ := hbo
                        have hb6 := hbel.out _ (hfr4.then' (hfr5.then' hfr6))
                        have j6 := (hb6.cell (p := ⟨b, o + i * 2, none⟩) hbl').trans k6
                        have c6 := (cell_block (p := ⟨eb, eo + j * 2 + 1, none⟩) (hfr6.block eb HEL.out (by have := HEB.out; omega))).trans HC1.out
                        obtain ⟨z, hz⟩ : ∃ z, A[i]? = some z := ⟨_, List.getElem?_eq_getElem (by have := HA.out; omega)⟩
                        have hmz := mixY_at (y := y) hAN hz
                        have HST := hid (mixY_step (y := y) hAN hz hx'.out)
                        have hml : (mixY xs y A i).length = n := by rw [mixY_len hAN i (by have := HN.out; omega)]; exact HN.out
                        obtain ⟨d6, f6⟩ := hcel.out _ _ i z hrow6 hml hmz
                        have HML := hid hml
                        clear k6 hmz hz hAN hml hb6
                        cases z
                        · by_cases hpy : pr' = y
                          · have he1 : (pr' == y) = true := by simp [hpy]
                            have he2 : decide (pr' = y) = true := by simp [hpy]
                            have HS2 := hid (show (mixY xs y A i).set i true = mixY xs y A (i + 1) by have := HST.out; rw [he2] at this; exact this)
                            clear hpy HST
                            go_wp2
                            refine wp_region_early (n := 20) _ rfl rfl (by kernel_rfl) (by kernel_rfl) (fun _ _ _ _ h => h) ?_
                            simp only [List.take_succ_cons, List.take_zero, List.drop_succ_cons, List.drop_zero, Act.put, Act.eval, List.setIfInBounds_toArray, List.set_cons_succ, List.set_cons_zero]
                            repeat (go_big_quiet_step (fail))
                            refine wpQuiet_nil ?_
                            intro q6
                            go_wp2
                            go_roundw
                            case rel => exact ⟨i + 1, by omega, by go_num, by rw [← HS2.out]; exact hsto.out _ _ i true (hrow6.drewN q6) HML.out, (hfr6.draw q6).then' (Frm.set (S := fun k => k = W2.heap.size) rfl _)⟩
                            case measure => simp [intOf]; omega
                          · have he1 : (pr' == y) = false := by simp [hpy]
                            have he2 : decide (pr' = y) = false := by simp [hpy]
                            have HS2 := hid (show (mixY xs y A i).set i false = mixY xs y A (i + 1) by have := HST.out; rw [he2] at this; exact this)
                            clear hpy HST
                            go_wp2
                            refine wp_region_early (n := 20) _ rfl rfl (by kernel_rfl) (by kernel_rfl) (fun _ _ _ _ h => h) ?_
                            simp only [List.take_succ_cons, List.take_zero, List.drop_succ_cons, List.drop_zero, Act.put, Act.eval, List.setIfInBounds_toArray, List.set_cons_succ, List.set_cons_zero]
                            repeat (go_big_quiet_step (fail))
                            refine wpQuiet_nil ?_
                            intro q6
                            go_wp2
                            go_roundw
                            case rel => exact ⟨i + 1, by omega, by go_num, by rw [← HS2.out]; exact hsto.out _ _ i false (hrow6.drewN q6) HML.out, (hfr6.draw q6).then' (Frm.set (S := fun k => k = W2.heap.size) rfl _)⟩
                            case measure => simp [intOf]; omega
                        · have HS2 := hid (show (mixY xs y A i).set i true = mixY xs y A (i + 1) from HST.out)
                          clear HST
                          go_wp2
                          refine wp_region_early (n := 20) _ rfl rfl (by kernel_rfl) (by kernel_rfl) (fun _ _ _ _ h => h) ?_
                          simp only [List.take_succ_cons, List.take_zero, List.drop_succ_cons, List.drop_zero, Act.put, Act.eval, List.setIfInBounds_toArray, List.set_cons_succ, List.set_cons_zero]
                          repeat (go_big_quiet_step (fail))
                          refine wpQuiet_nil ?_
                          intro q6
                          go_wp2
                          go_roundw
                          case rel => exact ⟨i + 1, by omega, by go_num, by rw [← HS2.out]; exact hsto.out _ _ i true (hrow6.drewN q6) HML.out, (hfr6.draw q6).then' (Frm.set (S := fun k => k = W2.heap.size) rfl _)⟩
                          case measure => simp [intOf]; omega
                      · have HMA := hid (mixY_all (y := y) hAN HN.out (show n ≤ i by omega))
                        have HRL := hid (show RInv xs rts (markY xs y A) ∧ Up A1 (markY xs y A) ∧ ∀ y' ∈ (es.map (·.print)).take (j + 1), hasP xs y' = true → OnA (markY xs y A) xs y' from
                          ⟨markY_inv hin5.out.1 (fun hp => rch_step (List.mem_of_getElem? hx.out) (hin5.out.1.snd k _ (hin5.out.2.1.2 k HZ.out) hx.out) (by rw [HXP.out]; exact List.mem_of_getElem? (show (es.map (·.print))[j]? = some y by rw [List.getElem?_map, hex.out]; rfl)) hp),
                           hin5.out.2.1.trans (markY_up hAN), fun y' hy' hp' => by
                            rw [HY.out] at hy'
                            rcases List.mem_append.1 hy' with h1 | h1
                            · exact (markY_up hAN).on (hin5.out.2.2 y' h1 hp')
                            · obtain rfl : y' = y := by simpa using h1
                              exact markY_on hAN HK.out hp'⟩)
                        have hlen7 : (markY xs y A).length = n := by rw [markY_len hAN]; exact HN.out
                        have HL7 := hid hlen7
                        clear hlen7
                        go_wp2
                        go_roundw
                        case rel => exact ⟨j + 1, markY xs y A, by omega, by go_num, by rw [← HMA.out]; exact hrow6, HL7.out, HRL, hfr5.then' hfr6⟩
                        case measure => simp [intOf]; omega
                  · have HRL := hid (show RInv xs rts A ∧ Up A0 A ∧ ∀ (i : Nat) (x : Pc), i < k + 1 → A0[i]? = some true → xs[i]? = some x → ∀ y ∈ prs x, hasP xs y = true → OnA A xs y from ⟨hin5.out.1, hin.out.2.1.trans hin5.out.2.1, fun i x hi h0 hxi y hy hp => by
                      by_cases e : i = k
                      · subst e
                        rw [hx.out] at hxi
                        obtain rfl := Option.some.inj hxi
                        rw [HXP.out] at hy
                        exact hin5.out.2.2 y (by rw [List.take_of_length_le (by rw [List.length_map, HM.out]; omega)]; exact hy) hp
                      · exact hin5.out.2.1.on (hin.out.2.2 i x (by omega) h0 hxi y hy hp)⟩)
                    go_wp2
                    go_roundw
                    case rel => exact ⟨k + 1, A, by omega, by go_num, hrow5, hA, HRL, hfr4.then' hfr5⟩
                    case measure => simp [intOf]; omega
            · have HRL := hid (show RInv xs rts A1 ∧ (Cpl xs rts A1 ∨ r + 1 ≤ A1.count true + 1) from ⟨hin.out.1, by
                have := round_gain (r := r - 1) HK.out HI1.out.1 hin.out.1 hin.out.2.1 (fun i x h0 hxi => hin.out.2.2 i x (by have := (List.getElem?_eq_some_iff.1 hxi).1; have := HN.out; omega) h0 hxi) (HI1.out.2.imp id (fun h => by omega))
                exact this.imp id (fun h => by omega)⟩)
              go_wp2
              go_roundw
              case rel => exact ⟨r + 1, A1, by omega, by go_num, hrow2, hA1, hid (fun _ => HRL.out), hfr2⟩
              case measure => simp [intOf]; omega
      · have HRB := hid (show A0 = reachB xs rts from round_end HK.out (hinv.out (by omega)).1 ((hinv.out (by omega)).2.imp id (fun h => by have := HN.out; omega)))
        have hb4 := hbel.out _ hfr
        have hout4 := HOUT.out.frm hfr (fun g hg e => by have := LT2.out; simp only [Value.ownBlock, Option.some.injEq] at hg; omega)
        have HA0 := hid hA0
        have hsz4 := hid (hrow.lt _ rfl).2
        clear hinv hfr hA0
        go_wp2
        go_loopw [5, 13] (fun out iv wr2 => ∃ (k : Nat) (acc : List Int), k ≤ n ∧ iv = .int .i64 k ∧ OwnI wr2 w.heap.size out acc ∧ Hid (acc = ((xs.take k).filter fun p => inR xs rts p.print).map (·.print)) ∧ acc.length ≤ k ∧ OwnB wr2 W2.heap.size (.slice (some ⟨W2.heap.size, 0, none⟩) n n) A0 ∧ Hid (∀ g, out.ownBlock = some g → g ≠ W2.heap.size) ∧ W2.heap.size < wr2.heap.size ∧ Below w.heap.size w wr2) (fun _ iv _ => n - (intOf iv).toNat)
        case atStart => exact ⟨0, [], Nat.zero_le _, rfl, hout4, rfl, Nat.zero_le _, hrow, hid (fun g hg => by have := LT2.out; simp only [Value.ownBlock, Option.some.injEq] at hg; omega), hsz4.out, hb4⟩
        case round =>
          obtain ⟨k, acc, hk, rfl, hown, hacc, hlen, hrow2, hne2, hsz2, hb⟩ := hrel
          clear hrow hout4 hb4
          by_cases hkn : k < n
          · obtain ⟨b, o, pr, t, rfl, hbl, hx, k0, _⟩ := H3.out k hkn
            have j0 := (hb.cell (p := ⟨b, o + k * 2, none⟩) hbl).trans k0
            have HF := hid (reach_succ (f := fun p => inR xs rts p.print) hx.out)
            have hAk : A0[k]? = some (inR xs rts pr) := by rw [HRB.out]; unfold reachB; rw [List.getElem?_map, hx.out]; rfl
            obtain ⟨d1, _⟩ := hcel.out _ A0 k _ hrow2 HA0.out hAk
            have hB := hb.size
            clear k0 hAk
            obtain ⟨z, hz⟩ : ∃ z, inR xs rts pr = z := ⟨_, rfl⟩
            rw [hz] at d1
            have HZ := hid hz
            clear hz
            cases z
            · have HS := hid (show ((xs.take (k + 1)).filter fun p => inR xs rts p.print).map (·.print) = acc by rw [HF.out, ← hacc.out]; simp only [HZ.out]; simp)
              go_wp2
              go_roundw
              case rel => exact ⟨k + 1, acc, by omega, by go_num, hown, hid HS.out.symm, by omega, hrow2, hne2, hsz2, hb⟩
              case measure => simp [intOf]; omega
            · have HS := hid (show ((xs.take (k + 1)).filter fun p => inR xs rts p.print).map (·.print) = acc ++ [pr] by rw [HF.out, ← hacc.out]; simp only [HZ.out]; simp)
              go_wp2_with (at_builtin; refine push_int (w0 := w) rfl _ _ rfl w.heap.size w.heap.size _ acc pr hown hb hB (Nat.le_refl _) rfl rfl (by omega) ?_; intro v' w' hown' hb' hB' hg')
              go_roundw
              case rel => exact ⟨k + 1, _, by omega, by go_num, hown', hid HS.out.symm, by simp; omega, hrow2.kept hg'.1 (.inr (fun e => hne2.out _ e.symm rfl)), hid (fun g hg => by
                rcases hg'.2 g hg with h6 | h6
                · exact hne2.out g h6
                · omega), Nat.lt_of_lt_of_le hsz2 hg'.1.size, hb'⟩
              case measure => simp [intOf]; omega
          · have HA := hid (show acc = reachOf xs rts by rw [HO.out, hacc.out, take_all HN.out (show n ≤ k by omega)])
            go_wp2
            go_ret
            exact ⟨_, rfl, by rw [← HA.out]; exact hown, hb⟩

end Go.Proofs.YtachfmlfmpaddaaGreatDoor

/- Walks: the reference's way of taking a name away. -/
namespace Go.Proofs.YtachfmlfmpaddaaGreatDoor
open Go.RowKit

theorem leftE_ok {es : List Ent} (h : entsOk es = true) (nm : ByteArray) (l : Int) : entsOk (leftE es nm l) = true := by
  unfold leftE
  split
  · unfold putEnt
    rw [if_pos h]
    split
    · assumption
    · exact h
  · rw [dropEnt_on h]; exact dropE_ok h nm
theorem drop_neg {s : List Pc} {pr : Int} {nm : ByteArray} {rest : List ByteArray} (h : childOf (entsOf (textAt s pr)) nm < 0) : dropIn s pr (nm :: rest) = (s, -1, false) := by unfold dropIn; rw [if_pos h]
theorem drop_one {s : List Pc} {pr : Int} {nm : ByteArray} (h : ¬ childOf (entsOf (textAt s pr)) nm < 0) : dropIn s pr [nm] = dropEnd s (leftE (entsOf (textAt s pr)) nm (-1)) := by unfold dropIn; rw [if_neg h, if_pos rfl]
theorem drop_fail {s : List Pc} {pr : Int} {nm : ByteArray} {rest : List ByteArray} (h : ¬ childOf (entsOf (textAt s pr)) nm < 0) (h0 : rest ≠ []) (hf : (dropIn s (childOf (entsOf (textAt s pr)) nm) rest).2.2 = false) : dropIn s pr (nm :: rest) = (s, -1, false) := by
  conv => lhs; unfold dropIn
  rw [if_neg h, if_neg h0, if_pos hf]
theorem drop_more {s s1 : List Pc} {pr l1 : Int} {nm : ByteArray} {rest : List ByteArray} (h : ¬ childOf (entsOf (textAt s pr)) nm < 0) (h0 : rest ≠ []) (hf : dropIn s (childOf (entsOf (textAt s pr)) nm) rest = (s1, l1, true)) : dropIn s pr (nm :: rest) = dropEnd s1 (leftE (entsOf (textAt s pr)) nm l1) := by
  conv => lhs; unfold dropIn
  rw [if_neg h, if_neg h0, hf]; simp
theorem entsOf_none' {l : List UInt8} (h : (readFolder l).isSome = false) : entsOf l = [] := by
  unfold entsOf
  cases hr : readFolder l with
  | none => rfl
  | some x => rw [hr] at h; cases h

set_option maxHeartbeats 2000000 in
set_option maxRecDepth 100000 in
theorem spec_l10Drop_c (parts : List ByteArray) : ∀ (v pv : Value) (xs : List Pc) (pr : Int) (w : World) (R : List Pc × Int × Bool), parts ≠ [] → dropIn xs pr parts = R → Pcs w w.heap.size v xs → storeOk xs = true → Strs w w.heap.size pv parts → (∀ x ∈ parts, x.size ≤ 1000) → parts.length ≤ 1000 →
    Calls Tryz.prog 190 #[v, .int .i64 pr, pv] w (SetPost w R) := by
  induction parts with
  | nil => intro v pv xs pr w R h0; exact absurd rfl h0
  | cons nm rest ih =>
    intro v pv xs pr w R _ hR h hs hp hx hl
    obtain ⟨m, hm⟩ : ∃ m, (nm :: rest).length = m := ⟨_, rfl⟩
    obtain ⟨pa, pc, rfl, hpc, hpc63, hp3⟩ := hp.strs hm
    have hm1 : 1 ≤ m := by simp at hm; omega
    obtain ⟨bp, op, t0, rfl, hbp, hx0, kp⟩ := hp3 0 (by omega)
    obtain rfl : nm = t0 := by have := hx0.out; simp at this; exact this
    rw [Nat.add_zero] at kp
    have HIH := hid ih
    have HM := hid hm
    have HS := hid hs
    have HP := hid hp
    have HX := hid hx
    have HH := hid h
    have HR := hid hR
    have HL := hid hl
    have HT := hid (text_small hs pr)
    have HKP := hid kp
    have hm9 : m ≤ 1000 := by omega
    clear hm hs hp hx h hR hp3 hx0 ih hl
    obtain ⟨fo, hfo⟩ : ∃ fo, (readFolder (bs ((getP xs pr).getD ByteArray.empty))).isSome = fo := ⟨_, rfl⟩
    obtain ⟨es, hes⟩ : ∃ es, entsOf (bs ((getP xs pr).getD ByteArray.empty)) = es := ⟨_, rfl⟩
    have HFO := hid hfo
    have HES := hid hes
    have HEA := hid (show entsOf (textAt xs pr) = es from hes)
    have HOK := hid (show entsOk es = true by rw [← hes]; exact entsOf_ok _)
    obtain ⟨n, hn⟩ : ∃ n, es.length = n := ⟨_, rfl⟩
    have HN := hid hn
    have hn3 : n ≤ 3 := by rw [← hn]; exact (ents_in HOK.out).1
    have hfn : 0 < n → fo = true := by
      intro h0
      cases fo
      · have := entsOf_none' hfo; rw [hes] at this; rw [this] at hn; simp at hn; omega
      · rfl
    have HFN := hid hfn
    obtain ⟨ch, hch⟩ : ∃ ch, childOf es nm = ch := ⟨_, rfl⟩
    have HCH := hid hch
    have HMZ := hid (show (0 : Int) < m by omega)
    clear hfo hes hn hfn hch kp
    cases fo
    · have h00 : n = 0 := by
        rcases Nat.eq_zero_or_pos n with h | h
        · exact h
        · have := HFN.out h; cases this
      have he0 : es = [] := List.eq_nil_of_length_eq_zero (HN.out.trans h00)
      have HES' := hid (show entsOf (bs ((getP xs pr).getD ByteArray.empty)) = [] by rw [HES.out, he0])
      obtain rfl : R = (xs, -1, false) := by rw [← HR.out]; exact drop_neg (by rw [HEA.out, he0]; show (-1 : Int) < 0; omega)
      clear h00 he0
      go_enter Tryz.func190, Tryz.ntmps190
      go_wp2_with fail
      refine (spec_l4Get_c _ xs pr _ _ HH.out).mono ?_
      rintro e w1 ⟨rfl, rfl⟩
      go_wp2_with fail
      refine (spec_ReadFolder_c _ _ (Nat.le_trans HT.out (by omega))).mono ?_
      rw [HFO.out, HES'.out]
      rintro e wc ⟨lv, rfl, o2, hb⟩
      obtain ⟨la, lc, rfl, _, _, _⟩ := (Rd.of_own o2).ents (n := 0) rfl
      have h9 := hid (HH.out.on hb)
      clear o2
      go_wp2
      go_loop [13, 14] (fun cv i => i = .int .i64 (0 : Nat) ∧ cv = .int .i64 (-1)) (fun _ _ => 0)
      case atStart => exact ⟨rfl, rfl⟩
      case round =>
        obtain ⟨rfl, rfl⟩ := hrel
        go_wp2
        go_ret3
        exact ⟨_, rfl, h9.out, hb⟩
    clear HFN
    go_enter Tryz.func190, Tryz.ntmps190
    go_wp2_with fail
    refine (spec_l4Get_c _ xs pr _ _ HH.out).mono ?_
    rintro e w1 ⟨rfl, rfl⟩
    go_wp2_with fail
    refine (spec_ReadFolder_c _ _ (Nat.le_trans HT.out (by omega))).mono ?_
    rw [HFO.out, HES.out]
    rintro e wc ⟨lv, rfl, o2, hb⟩
    obtain ⟨la, lc, rfl, _, _, hl3⟩ := (Rd.of_own o2).ents HN.out
    have HL2 := hid (Rd.of_own o2)
    have kpc := (hb.cell (p := ⟨bp, op, none⟩) hbp).trans HKP.out
    clear o2
    go_wp2
    go_loopw [13, 14] (fun cv i wr => ∃ k z : Nat, k ≤ n ∧ i = .int .i64 k ∧ cv = .int .i64 (childOf (es.take k) nm) ∧ wr = wc.drewN z) (fun _ i _ => n - (intOf i).toNat)
    case atStart => exact ⟨0, 0, Nat.zero_le _, rfl, rfl, rfl⟩
    case round =>
      obtain ⟨k, z, hk, rfl, rfl, rfl⟩ := hrel
      by_cases hlt : k < n
      · obtain ⟨b, o, t, r, rfl, hbl, hx, k0, k1⟩ := hl3 k hlt
        have HC := hid (child_succ (nm := nm) hx.out)
        have hkn : (k : Int) < n := by omega
        have hmz := HMZ.out
        have hse := str_eqE (u := t) (t := nm)
        clear hl3
        by_cases hte : t = nm
        · have hd1 : (t.toList == nm.toList) = true := by rw [hse]; exact decide_eq_true hte
          have HC2 := hid (HC.out.trans (if_pos hte))
          clear hse hte
          go_wp2
          go_quiet (fail)
          go_wp2
          go_roundw
          case rel => exact ⟨k + 1, _, by omega, by go_num, by rw [HC2.out], rfl⟩
          case measure => simp [intOf]; omega
        · have hd1 : (t.toList == nm.toList) = false := by rw [hse]; exact decide_eq_false hte
          have HC2 := hid (HC.out.trans (if_neg hte))
          clear hse hte
          go_wp2
          go_quiet (fail)
          go_wp2
          go_roundw
          case rel => exact ⟨k + 1, _, by omega, by go_num, by rw [HC2.out], rfl⟩
          case measure => simp [intOf]; omega
      · have hce : childOf (es.take k) nm = ch := by rw [take_all HN.out (show n ≤ k by omega)]; exact HCH.out
        rw [hce]
        obtain ⟨wd, hwd⟩ : ∃ wd, wd = wc.drewN z := ⟨_, rfl⟩
        have hbd : Below w.heap.size w wd := by rw [hwd]; exact bl_drewN hb z
        have hld : Hid (Ents wd wd.heap.size (.slice la n lc) es) := by rw [hwd]; exact HL2.out.drewN z
        rw [← hwd]
        clear hce hwd hl3 kpc HL2 hb
        by_cases hc0 : ch < 0
        · obtain rfl : R = (xs, -1, false) := by rw [← HR.out]; exact drop_neg (by rw [HEA.out, HCH.out]; exact hc0)
          have h9 := hid (HH.out.on hbd)
          go_wp2
          go_ret3
          exact ⟨_, rfl, h9.out, hbd⟩
        have HC0 := hid (show 0 ≤ childOf (entsOf (textAt xs pr)) nm by rw [HEA.out, HCH.out]; omega)
        have HEC := hid (show childOf (entsOf (textAt xs pr)) nm = ch by rw [HEA.out, HCH.out])
        go_upto_if 60 with fail
        go_cut [0, 15, 16, 17, 18] (fun sv lv _ _ _ wx => ∃ (xs1 : List Pc) (l1 : Int), Pcs wx wx.heap.size sv xs1 ∧ lv = .int .i64 l1 ∧ Below wd.heap.size wd wx ∧ Hid (storeOk xs1 = true) ∧ Hid (R = dropEnd xs1 (leftE es nm l1)))
        case first =>
          by_cases hr0 : rest = []
          · have hmd : decide ((1 : Int) < (m : Int)) = false := by have := HM.out; rw [hr0] at this; simp at this ⊢; omega
            have hmp : (m : Int) ≤ 1 := by have := HM.out; rw [hr0] at this; simp at this; omega
            have HO9 := hid (show R = dropEnd xs (leftE es nm (-1)) by rw [← HR.out, hr0, drop_one (Int.not_lt.2 HC0.out), HEA.out])
            have h9 := hid (HH.out.on hbd)
            clear hr0
            go_wp2
            go_meet
            exact ⟨xs, -1, h9.out, rfl, Below.refl _ _, HS, HO9⟩
          · have hmd : decide ((1 : Int) < (m : Int)) = true := by
              have := HM.out
              cases rest with
              | nil => exact absurd rfl hr0
              | cons x r => simp at this ⊢; omega
            have hmp : (1 : Int) < m := by simp at hmd; omega
            have HR0 := hid hr0
            have HTL := hid (Rd.tailS HP.out HM.out (if_neg (by omega) : (if pc = 1 then (some ⟨bp, op, none⟩ : Option Addr) else some ⟨bp, op + 1, none⟩) = some ⟨bp, op + 1, none⟩))
            have h1m : (1 : Int) ≤ m := by omega
            have h1c : (1 : Int) ≤ pc := by omega
            obtain ⟨⟨xs1, l1, ok⟩, hR1⟩ : ∃ R1, dropIn xs ch rest = R1 := ⟨_, rfl⟩
            have HR1 := hid hR1
            have HS1 := hid (show storeOk xs1 = true by have := dropIn_ok rest xs ch HS.out; rw [hR1] at this; exact this)
            clear hr0 hR1
            go_wp2_with fail
            refine (HIH.out _ _ xs ch _ (xs1, l1, ok) HR0.out HR1.out (HH.out.on hbd) HS.out (HTL.out.on hbd) (fun x hx => HX.out x (by simp [hx])) (by have := HL.out; simp at this; omega)).mono ?_
            rintro e w5 ⟨sv, rfl, s5, b5⟩
            have d5 := bl_then hbd b5
            have S5 := hid s5
            clear h1m h1c s5
            cases ok
            · obtain rfl : R = (xs, -1, false) := by rw [← HR.out]; exact drop_fail (Int.not_lt.2 HC0.out) HR0.out (by rw [HEC.out, HR1.out])
              have h9 := hid (HH.out.on d5)
              clear b5
              go_wp2
              go_ret3
              exact ⟨_, rfl, h9.out, d5⟩
            · have HO9 := hid (show R = dropEnd xs1 (leftE es nm l1) by rw [← HR.out, drop_more (Int.not_lt.2 HC0.out) HR0.out (by rw [HEC.out, HR1.out]), HEA.out])
              go_wp2
              go_meet
              exact ⟨xs1, l1, S5.out, rfl, b5, HS1, HO9⟩
        case rest =>
          obtain ⟨xs1, l1, s5, rfl, hb5, HS1, HO9⟩ := hcut
          have S5 := hid s5
          have L5 := hid (hld.out.on hb5)
          have d5 := bl_then hbd hb5
          have kp5 := (d5.cell (p := ⟨bp, op, none⟩) hbp).trans HKP.out
          have hmz := HMZ.out
          have HXN := hid (show ∀ x ∈ es, x.name.size ≤ 1048576 from fun x hx => by have := name_len (ents_all HOK.out hx); omega)
          have HNM := hid (show nm.size ≤ 1048576 by have := HX.out nm (by simp); omega)
          have HNL := hid (show es.length ≤ 1048570 by have := HN.out; omega)
          clear s5 hb5 hbd hld
          go_wp2_with fail
          refine (spec_DropEntry_c _ es nm _ L5.out HXN.out HNL.out).mono ?_
          rintro e w6 ⟨rv, rfl, o6, b6⟩
          have d6 := bl_then d5 b6
          have S6 := hid (S5.out.on b6)
          have L6 := hid (L5.out.on b6)
          have kp6 := (d6.cell (p := ⟨bp, op, none⟩) hbp).trans HKP.out
          have O6 := hid (Rd.of_own o6)
          clear o6 b6 d5 S5 L5 kp5
          go_upto_if 84 with fail
          go_cut [19] (fun rw_ wx => Ents wx wx.heap.size rw_ (leftE es nm l1) ∧ Below w6.heap.size w6 wx)
          case first =>
            by_cases hl0 : 0 ≤ l1
            · have hd : decide (0 ≤ l1) = true := by simp; omega
              have HLE := hid (show leftE es nm l1 = (putEnt es ⟨nm, l1⟩).1 by unfold leftE; rw [if_pos hl0])
              go_wp2_with fail
              refine (spec_PutEntry_c _ es ⟨nm, l1⟩ _ L6.out HXN.out HNL.out HNM.out).mono ?_
              rintro e w7 ⟨mv, rfl, o7, b7⟩
              have O7 := hid (Rd.of_own o7)
              clear o7
              go_wp2
              go_meet
              exact ⟨by rw [HLE.out]; exact O7.out, b7⟩
            · have hd : decide (0 ≤ l1) = false := by simp; omega
              have HLE := hid (show leftE es nm l1 = (dropEnt es nm).1 by unfold leftE; rw [if_neg hl0])
              go_wp2
              go_meet
              exact ⟨by rw [HLE.out]; exact O6.out, Below.refl _ _⟩
          case rest =>
            obtain ⟨hr7, hb7⟩ := hcut
            have d7 := bl_then d6 hb7
            have S7 := hid (S6.out.on hb7)
            have R7 := hid hr7
            clear hb7 kp6
            obtain ⟨fs, hfs⟩ : ∃ fs, leftE es nm l1 = fs := ⟨_, rfl⟩
            have HFS := hid (show entsOk fs = true by rw [← hfs]; exact leftE_ok HOK.out nm l1)
            rw [hfs] at R7 HO9 hr7
            obtain ⟨q, hq⟩ : ∃ q, fs.length = q := ⟨_, rfl⟩
            obtain ⟨fa, fc, rfl, _, _, _⟩ := hr7.ents hq
            have HQ := hid hq
            clear hfs hr7 hq
            by_cases hq0 : q = 0
            · have hqd : ((q : Int) == 0) = true := by rw [hq0]; rfl
              obtain rfl : R = (xs1, -1, true) := by
                rw [HO9.out]; unfold dropEnd
                rw [if_pos (List.eq_nil_of_length_eq_zero (HQ.out.trans hq0))]
              clear hq0
              go_wp2
              go_ret3
              exact ⟨_, rfl, S7.out, d7⟩
            · have hqd : ((q : Int) == 0) = false := by simp; omega
              have HX1 := hid (show ∀ x ∈ fs, x.name.size ≤ 1048576 from fun x hx => by have := name_len (ents_all HFS.out hx); omega)
              have HL1 := hid (show fs.length ≤ 1048576 by have := (ents_in HFS.out).1; omega)
              have HFT := hid (show (strL (folderText fs)).size ≤ 4611686018427387904 by rw [strL_size]; have := folder_len HFS.out; omega)
              obtain ⟨⟨xs2, p2, ok2⟩, hpq⟩ : ∃ P, putS xs1 (strL (folderText fs)) = P := ⟨_, rfl⟩
              have HPQ := hid hpq
              obtain rfl : R = (xs2, p2, ok2) := by
                rw [HO9.out]; unfold dropEnd
                rw [if_neg (fun e => hq0 (by rw [← HQ.out, e]; rfl)), hpq]
              have HT1 := hid (fun (x : Pc) (hx : x ∈ xs1) => show x.text.size ≤ 1048576 by have := st_text HS1.out hx; omega)
              have HN1 := hid (show xs1.length ≤ 1048576 by have := (st_in HS1.out).1; omega)
              clear hpq hq0
              go_wp2_with fail
              refine (spec_FolderText_c _ fs _ _ R7.out HX1.out HL1.out).mono ?_
              rintro e w7 ⟨rfl, z7, rfl⟩
              have d8 := bl_drewN d7 z7
              have h8 := hid (S7.out.drewN z7)
              go_wp2_with fail
              refine (spec_PutText_c _ xs1 _ _ h8.out HT1.out HN1.out HFT.out).mono ?_
              rw [HPQ.out]
              rintro e w8 ⟨fv, rfl, o8, b8⟩
              have d9 := bl_then d8 b8
              have O8 := hid (Rd.of_own o8)
              clear o8 b8 d8
              go_wp2
              go_ret3
              exact ⟨_, rfl, O8.out, d9⟩

end Go.Proofs.YtachfmlfmpaddaaGreatDoor

/- Walks: what no root reaches. -/
namespace Go.Proofs.YtachfmlfmpaddaaGreatDoor
open Go.RowKit




theorem inR_has {l : List Pc} {roots : List Int} {x : Pc} (hs : storeOk l = true) (hx : x ∈ l) : hasI (reachOf l roots) x.print = inR l roots x.print := by
  rw [Bool.eq_iff_iff, hasI_iff, reachOf_on hs, List.mem_map]
  constructor
  · rintro ⟨y, hy, e⟩
    have := (List.mem_filter.1 hy).2
    rw [e] at this
    exact this
  · intro h
    exact ⟨x, List.mem_filter.2 ⟨hx, h⟩, rfl⟩


end Go.Proofs.YtachfmlfmpaddaaGreatDoor
