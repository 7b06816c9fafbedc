/- Walks: the texts of folders. -/
import Derived.Test.YtkfkcbceoekgjaaDoorEnt
import Derived.Test.YtkfkcbceoekgjaaDoorHexT
import Derived.Test.YtkfkcbceoekgjaaDoorInvV
namespace Go.Proofs.YtkfkcbceoekgjaaDoor
open Go.RowKit

theorem entsText_succ {l : List Ent} {k : Nat} {x : Ent} (h : l[k]? = some x) : entsText (l.take (k + 1)) = entsText (l.take k) ++ entText x := by
  unfold entsText; rw [take_snoc' h]; simp
theorem entText_len {x : Ent} (h : entOk x = true) : (entText x).length ≤ 16 := by
  have hw := (entOk_iff.1 h).1
  simp only [wordOk, Bool.and_eq_true, decide_eq_true_eq] at hw
  have := hexT_len x.print
  have hz := bs_lenH x.name
  simp [entText]; omega
theorem entsText_len : ∀ {l : List Ent}, (∀ e ∈ l, entOk e = true) → (entsText l).length ≤ 16 * l.length
  | [], _ => by simp [entsText]
  | e :: r, h => by
    have h1 := entText_len (h e (by simp))
    have h2 := entsText_len (l := r) (fun x hx => h x (by simp [hx]))
    simp only [entsText, List.flatMap_cons, List.length_append, List.length_cons] at h2 ⊢
    omega
theorem name_len {x : Ent} (h : entOk x = true) : x.name.size ≤ 8 := by
  have hw := (entOk_iff.1 h).1
  simp only [wordOk, Bool.and_eq_true, decide_eq_true_eq] at hw
  have := hw.1.1.2
  simpa using this
/-- One entry's text behind what there is. -/
theorem ent_cat (T : List UInt8) (x : Ent) : strL T ++ (x.name ++ ⟨#[61]⟩ ++ strL (hexT x.print) ++ ⟨#[59]⟩) = strL (T ++ entText x) := by
  rw [← strL_bs x.name, show (⟨#[61]⟩ : ByteArray) = strL [61] from rfl, show (⟨#[59]⟩ : ByteArray) = strL [59] from rfl]
  simp only [strL_append]
  congr 1
  simp [entText]
theorem ent_cat2 (T : List UInt8) (x : Ent) : strL T ++ x.name ++ ⟨#[61]⟩ ++ strL (hexT x.print) ++ ⟨#[59]⟩ = strL (T ++ entText x) := by
  rw [← strL_bs x.name, show (⟨#[61]⟩ : ByteArray) = strL [61] from rfl, show (⟨#[59]⟩ : ByteArray) = strL [59] from rfl]
  simp only [strL_append]
  congr 1
  simp [entText]

set_option maxHeartbeats 2000000 in
set_option maxRecDepth 100000 in
theorem impl_FolderText_c (v : Value) (xs : List Ent) (w : World) (h : Ents w w.heap.size v xs) (hg : Glob w) :
    Calls Tryd.prog 64 #[v] w fun e w' => e = .returned (.string (strL (folderText xs))) ∧ Below w.heap.size w w' := by
  obtain ⟨n, hn⟩ : ∃ n, xs.length = n := ⟨_, rfl⟩
  obtain ⟨a, c, rfl, h1, h2, h3⟩ := h.ents hn
  have HN := hid hn
  cases hok : entsOk xs
  · have HO := hid (folder_off hok)
    clear h3 hn
    go_enter Tryd.func64, Tryd.ntmps64
    go_wp2_with fail
    refine (impl_EntriesValid_c _ xs _ h).mono ?_
    rw [hok]
    rintro e w1 ⟨rfl, b1⟩
    go_wp2
    go_ret
    exact ⟨by rw [HO.out]; rfl, b1⟩
  · have HO := hid (folder_on hok)
    have HA := hid (fun (e : Ent) (he : e ∈ xs) => ents_all hok he)
    have h3n := (ents_in hok).1
    rw [hn] at h3n
    have HK := hid hok
    have HG := hid hg
    go_enter Tryd.func64, Tryd.ntmps64
    go_wp2_with fail
    refine (impl_EntriesValid_c _ xs _ h).mono ?_
    rw [HK.out]
    rintro e w1 ⟨rfl, b1⟩
    have hs1 := b1.size
    clear hok h hn hg
    go_wp2
    go_loopw [3, 11] (fun tv i wr => ∃ (k : Nat) (T : List UInt8), k ≤ n ∧ i = .int .i64 k ∧ tv = .string (strL T) ∧ T.length ≤ 1 + 16 * k ∧ Hid (T = 100 :: entsText (xs.take k)) ∧ Below w1.heap.size w1 wr) (fun _ i _ => n - (intOf i).toNat)
    case atStart => exact ⟨0, [100], Nat.zero_le _, rfl, rfl, by simp, rfl, Below.refl _ _⟩
    case round =>
      obtain ⟨k, T, hk, rfl, rfl, hTl, hT, hb⟩ := hrel
      have c1 := bl_then b1 hb
      by_cases hlt : k < n
      · obtain ⟨b, o, t, r, rfl, hbl, hx, k0, k1⟩ := h3 k hlt
        have j0 := (c1.cell (p := ⟨b, o + k * 2, none⟩) hbl).trans k0
        have j1 := (c1.cell (p := ⟨b, o + k * 2 + 1, none⟩) hbl).trans k1
        have hoke := HA.out _ (List.mem_of_getElem? hx.out)
        have hsn := name_len hoke
        have hsh := hexT_len r
        have hlt16 := entText_len hoke
        have hcat := ent_cat T ⟨t, r⟩
        have hs0 := strL_size T
        have hs2 := strL_size (hexT r)
        have HT2 := hid (show T ++ entText ⟨t, r⟩ = 100 :: entsText (xs.take (k + 1)) by rw [entsText_succ hx.out, hT.out]; rfl)
        have HTL := hid (show (T ++ entText ⟨t, r⟩).length ≤ 1 + 16 * (k + 1) by simp; omega)
        have hal : Below w1.heap.size w1 (wr.alloc (.cells #[.string t, .int .i64 r] 45)) := hb.alloc hb.size _
        have hgl : Glob (wr.alloc (.cells #[.string t, .int .i64 r] 45)) := (HG.out.on c1).on ((Below.refl _ _).alloc (Nat.le_refl _) _)
        have hcell : (wr.alloc (.cells #[.string t, .int .i64 r] 45)).heap[wr.heap.size]? = some (.cells #[.string t, .int .i64 r] 45 (0, 0)) := heap_alloc_new _ _
        obtain ⟨g, hgn⟩ : ∃ g, g = wr.heap.size := ⟨_, rfl⟩
        simp only at hsn hcat
        clear k0 k1 h3 hoke hlt16
        go_wp2
        obtain ⟨W1, hW1⟩ : ∃ W1, W1 = wr.alloc (.cells #[.string t, .int .i64 r] 45) := ⟨_, rfl⟩
        rw [← hW1] at hal hgl hcell ⊢
        rw [← hgn] at hcell ⊢
        have hgW : g < W1.heap.size := (Array.getElem?_eq_some_iff.1 hcell).1
        clear hW1
        have hq1 : (strL T).size + (t ++ ⟨#[61]⟩ ++ strL (hexT r) ++ ⟨#[59]⟩ : ByteArray).size ≤ 1000 := by simp only [ByteArray.size_append, hs0, hs2]; have e1 : (⟨#[61]⟩ : ByteArray).size = 1 := rfl; have e2 : (⟨#[59]⟩ : ByteArray).size = 1 := rfl; omega
        have hq2 : t.size + (⟨#[61]⟩ : ByteArray).size ≤ 1000 := by have e1 : (⟨#[61]⟩ : ByteArray).size = 1 := rfl; omega
        have hq3 : (t ++ ⟨#[61]⟩ : ByteArray).size + (strL (hexT r)).size ≤ 1000 := by simp only [ByteArray.size_append, hs2]; have e1 : (⟨#[61]⟩ : ByteArray).size = 1 := rfl; omega
        have hq4 : (t ++ ⟨#[61]⟩ ++ strL (hexT r) : ByteArray).size + (⟨#[59]⟩ : ByteArray).size ≤ 1000 := by simp only [ByteArray.size_append, hs2]; have e1 : (⟨#[61]⟩ : ByteArray).size = 1 := rfl; have e2 : (⟨#[59]⟩ : ByteArray).size = 1 := rfl; omega
        refine wp_region_vals rfl (by kernel_rfl) (by kernel_rfl) (by kernel_rfl) (by simp) (by kernel_rfl) (fun w' => Below W1.heap.size W1 w') [.string (strL T), .pointer (some ⟨g, 0, none⟩), .string t, .string (t ++ ⟨#[61]⟩), .pointer (some ⟨g, 1, none⟩), .int .i64 r, .string (strL (hexT r)), .string (t ++ ⟨#[61]⟩ ++ strL (hexT r)), .string (t ++ ⟨#[61]⟩ ++ strL (hexT r) ++ ⟨#[59]⟩), .string (strL T ++ (t ++ ⟨#[61]⟩ ++ strL (hexT r) ++ ⟨#[59]⟩)), .string (strL T ++ (t ++ ⟨#[61]⟩ ++ strL (hexT r) ++ ⟨#[59]⟩))] (Below.refl _ _).drew ?_ ?_
        · intro i oo hi a' w4 hj' hb' hd
          obtain ⟨hlt1, rfl⟩ := Array.getElem?_eq_some_iff.1 hi
          have hlt' : i < 11 := hlt1
          clear hi
          have hcell4 := (hj'.block g hgW).trans hcell
          obtain rfl | rfl | rfl | rfl | rfl | rfl | rfl | rfl | rfl | rfl | rfl : i = 0 ∨ i = 1 ∨ i = 2 ∨ i = 3 ∨ i = 4 ∨ i = 5 ∨ i = 6 ∨ i = 7 ∨ i = 8 ∨ i = 9 ∨ i = 10 := by omega
          · have b1 : a'.eval (.tmp 3) = .string (strL T) := hb' 3 (by kernel_rfl)
            exact iv_val (by simp [execOp, b1]) ⟨rfl, hj'⟩
          · have b1 : a'.eval (.tmp 5) = .pointer (some ⟨g, 0, none⟩) := hb' 5 (by rfl); have u1 := ev_get b1
            exact iv_val (v := .pointer (some ⟨g, 0, none⟩)) (by simp [execOp, u1, go_sem, Result.andThen]) ⟨rfl, hj'⟩
          · have v1 : a'.eval (.tmp 16) = .pointer (some ⟨g, 0, none⟩) := hd ⟨1, .data⟩ (by simp) rfl; have u1 := ev_get v1
            have hc0 : w4.cell? ⟨g, 0, none⟩ = some (.string t) := by simp [World.cell?, hcell4]
            exact iv_val (v := .string t) (by simp [execOp, u1, hc0, go_sem, Result.andThen]) ⟨rfl, hj'⟩
          · have v1 : a'.eval (.tmp 17) = .string t := hd ⟨2, .data⟩ (by simp) rfl; have u1 := ev_get v1
            exact iv_val (v := .string (t ++ ⟨#[61]⟩)) (by simp [execOp, u1, go_sem, Result.andThen]; rw [if_neg (by omega)]) ⟨rfl, hj'⟩
          · have b1 : a'.eval (.tmp 5) = .pointer (some ⟨g, 0, none⟩) := hb' 5 (by rfl); have u1 := ev_get b1
            exact iv_val (v := .pointer (some ⟨g, 1, none⟩)) (by simp [execOp, u1, go_sem, Result.andThen]) ⟨rfl, hj'⟩
          · have v1 : a'.eval (.tmp 19) = .pointer (some ⟨g, 1, none⟩) := hd ⟨4, .data⟩ (by simp) rfl; have u1 := ev_get v1
            have hc0 : w4.cell? ⟨g, 1, none⟩ = some (.int .i64 r) := by simp [World.cell?, hcell4]
            exact iv_val (v := .int .i64 r) (by simp [execOp, u1, hc0, go_sem, Result.andThen]) ⟨rfl, hj'⟩
          · have v4 : a'.eval (.tmp 20) = .int .i64 r := hd ⟨5, .data⟩ (by simp) rfl; have u4 := ev_get v4
            refine iv_enter (f := 73) (args := #[.int .i64 r]) (by simp [execOp, u4, go_sem]) ?_
            refine (impl_HexText_c r _ (hgl.on hj')).mono ?_
            rintro e w5 ⟨rfl, b5⟩
            exact ⟨_, rfl, rfl, bl_then hj' b5⟩
          · have v1 : a'.eval (.tmp 18) = .string (t ++ ⟨#[61]⟩) := hd ⟨3, .data⟩ (by simp) rfl; have u1 := ev_get v1
            have v2 : a'.eval (.tmp 21) = .string (strL (hexT r)) := hd ⟨6, .data⟩ (by simp) rfl; have u2 := ev_get v2
            exact iv_val (v := .string (t ++ ⟨#[61]⟩ ++ strL (hexT r))) (by simp [execOp, u1, u2, go_sem, Result.andThen]; rw [if_neg (by omega)]) ⟨rfl, hj'⟩
          · have v1 : a'.eval (.tmp 22) = .string (t ++ ⟨#[61]⟩ ++ strL (hexT r)) := hd ⟨7, .data⟩ (by simp) rfl; have u1 := ev_get v1
            exact iv_val (v := .string (t ++ ⟨#[61]⟩ ++ strL (hexT r) ++ ⟨#[59]⟩)) (by simp [execOp, u1, go_sem, Result.andThen]; rw [if_neg (by omega)]) ⟨rfl, hj'⟩
          · have v1 : a'.eval (.tmp 15) = .string (strL T) := hd ⟨0, .data⟩ (by simp) rfl; have u1 := ev_get v1
            have v2 : a'.eval (.tmp 23) = .string (t ++ ⟨#[61]⟩ ++ strL (hexT r) ++ ⟨#[59]⟩) := hd ⟨8, .data⟩ (by simp) rfl; have u2 := ev_get v2
            exact iv_val (v := .string (strL T ++ (t ++ ⟨#[61]⟩ ++ strL (hexT r) ++ ⟨#[59]⟩))) (by simp [execOp, u1, u2, go_sem, Result.andThen]; rw [if_neg (by omega)]) ⟨rfl, hj'⟩
          · have v1 : a'.eval (.tmp 24) = .string (strL T ++ (t ++ ⟨#[61]⟩ ++ strL (hexT r) ++ ⟨#[59]⟩)) := hd ⟨9, .data⟩ (by simp) rfl
            exact iv_val (by simp [execOp, v1]) ⟨rfl, hj'⟩
        intro tm w4 hb4 hF
        have q := hF 10 _ rfl
        clear hF
        simp only [refillL, List.setIfInBounds_toArray, List.set_cons_succ, List.set_cons_zero]
        rw [show tm.getD 3 undef = .string (strL T ++ (t ++ ⟨#[61]⟩ ++ strL (hexT r) ++ ⟨#[59]⟩)) from q, hcat]
        have hb5 := hal.trans (hb4.mono hal.size)
        go_wp2
        go_roundw
        case rel => exact ⟨k + 1, _, by omega, by go_num, rfl, HTL.out, HT2, hb5⟩
        case measure => simp [intOf]; omega
      · have HF := hid (show T = folderText xs by rw [HO.out, hT.out, take_all HN.out (show n ≤ k by omega)])
        go_wp2
        go_ret
        exact ⟨by rw [← HF.out]; rfl, c1⟩

theorem spec_HexText_e (n : Int) (w : World) {s : ByteArray} (h : strL (hexT n) = s) :
    Calls Tryd.prog 59 #[.int .i64 n] w fun e w' => e = .returned (.string s) ∧ w = w' := h ▸ spec_HexText_c n w

set_option maxHeartbeats 2000000 in
set_option maxRecDepth 100000 in
theorem spec_FolderText_c (v : Value) (xs : List Ent) (w : World) (B : Nat) (h : Ents w B v xs) (hx0 : ∀ x ∈ xs, x.name.size ≤ 1048576) (hl0 : xs.length ≤ 1048576) :
    Calls Tryd.prog 46 #[v] w fun e w' => e = .returned (.string (strL (folderText xs))) ∧ ∃ q, w' = w.drewN q := by
  obtain ⟨n, hn⟩ : ∃ n, xs.length = n := ⟨_, rfl⟩
  obtain ⟨a, c, rfl, h1, h2, h3⟩ := h.ents hn
  have HN := hid hn
  cases hok : entsOk xs
  · have HO := hid (folder_off hok)
    clear h3 hn
    go_enter Tryd.func46, Tryd.ntmps46
    go_wp2_with fail
    refine (spec_EntriesValid_c _ xs _ _ h hx0 hl0).mono ?_
    rw [hok]
    rintro e w1 ⟨rfl, z, rfl⟩
    go_wp2
    go_ret
    exact ⟨by rw [HO.out]; rfl, z, rfl⟩
  · have HO := hid (folder_on hok)
    have HA := hid (fun (e : Ent) (he : e ∈ xs) => ents_all hok he)
    have h3n := (ents_in hok).1
    rw [hn] at h3n
    have HK := hid hok
    go_enter Tryd.func46, Tryd.ntmps46
    go_wp2_with fail
    refine (spec_EntriesValid_c _ xs _ _ h hx0 hl0).mono ?_
    rw [HK.out]
    rintro e w1 ⟨rfl, z, rfl⟩
    clear hok h hn hx0 hl0
    go_wp2
    go_loopw [3, 4] (fun tv i wr => ∃ (k q : Nat) (T : List UInt8), k ≤ n ∧ i = .int .i64 k ∧ tv = .string (strL T) ∧ T.length ≤ 1 + 16 * k ∧ Hid (T = 100 :: entsText (xs.take k)) ∧ wr = w.drewN q) (fun _ i _ => n - (intOf i).toNat)
    case atStart => exact ⟨0, z, [100], Nat.zero_le _, rfl, rfl, by simp, rfl, rfl⟩
    case round =>
      obtain ⟨k, q, T, hk, rfl, rfl, hTl, hT, rfl⟩ := hrel
      by_cases hlt : k < n
      · obtain ⟨b, o, t, r, rfl, hbl, hx, k0, k1⟩ := h3 k hlt
        have hoke := HA.out _ (List.mem_of_getElem? hx.out)
        have hsn := name_len hoke
        have hsh := hexT_len r
        have hlt16 := entText_len hoke
        have hcat := ent_cat2 T ⟨t, r⟩
        have hs0 := strL_size T
        have hs2 := strL_size (hexT r)
        obtain ⟨H, hH⟩ : ∃ H, strL (hexT r) = H := ⟨_, rfl⟩
        rw [hH] at hcat hs2
        have HH := hid hH
        have HT2 := hid (show T ++ entText ⟨t, r⟩ = 100 :: entsText (xs.take (k + 1)) by rw [entsText_succ hx.out, hT.out]; rfl)
        have HTL := hid (show (T ++ entText ⟨t, r⟩).length ≤ 1 + 16 * (k + 1) by simp; omega)
        simp only at hsn hcat
        clear h3 hoke hlt16 hH
        go_wp2
        go_quiet (first | (go_at_call 59; exact qsame (spec_HexText_e _ _ HH.out)) | fail)
        go_wp2
        go_roundw
        case rel => exact ⟨k + 1, _, _, by omega, by go_num, rfl, HTL.out, HT2, rfl⟩
        case measure => simp [intOf]; omega
      · have HF := hid (show T = folderText xs by rw [HO.out, hT.out, take_all HN.out (show n ≤ k by omega)])
        go_wp2
        go_ret
        exact ⟨by rw [← HF.out]; rfl, q, rfl⟩

end Go.Proofs.YtkfkcbceoekgjaaDoor
