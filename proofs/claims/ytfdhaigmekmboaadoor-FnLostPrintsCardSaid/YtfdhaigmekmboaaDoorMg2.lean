/- Walks and plain facts, joined: Print, Has, Ent, Hex, HexT, Inv, Inv2, InvR, InvV, Fold. -/
import Derived.Test.YtfdhaigmekmboaaDoorMg1
import Derived.Laws.ResultCell
import Derived.Handy
import Derived.Laws.Tables
import Derived.Laws.IdiomStrings
import Derived.StillTail
import Derived.Deep.QuietTactic
set_option linter.unusedVariables false

/- Walks: prints. -/
namespace Go.Proofs.YtfdhaigmekmboaaDoor
open Go.RowKit

theorem printOf_off {l : List UInt8} (h : textOk l = false) : printOf l = -1 := by unfold printOf; rw [h]; rfl
theorem printOf_on {l : List UInt8} (h : textOk l = true) : printOf l = prFold l := by unfold printOf; rw [h]; rfl
theorem prFold_succ {l : List UInt8} {k : Nat} {c : UInt8} (h : l[k]? = some c) : prFold (l.take (k + 1)) = prStep (prFold (l.take k)) c := foldl_succ _ _ h

set_option maxHeartbeats 400000 in
theorem impl_PrintOf_c (s : ByteArray) (w : World) :
    Calls Tryd.prog 33 #[.string s] w fun e w' => e = .returned (.int .i64 (printOf (bs s))) ∧ w = w' := by
  cases ht : textOk (bs s)
  · have HO := hid (printOf_off ht)
    go_enter Tryd.func33, Tryd.ntmps33
    go_wp2_with (go_at_call 32; refine (impl_TextValid_c _ _).mono ?_; rw [ht]; rintro e w' ⟨rfl, rfl⟩)
    go_ret
    exact ⟨ret_i HO.out.symm, rfl⟩
  · have HO := hid (printOf_on ht)
    have h60 := textOk_len ht
    rw [bs_len] at h60
    go_enter Tryd.func33, Tryd.ntmps33
    go_wp2_with (go_at_call 32; refine (impl_TextValid_c _ _).mono ?_; rw [ht]; rintro e w' ⟨rfl, rfl⟩)
    clear ht
    go_loop [3, 4] (fun n i => ∃ (k : Nat) (x : Int), k ≤ s.size ∧ i = .int .i64 k ∧ n = .int .i64 x ∧ 0 ≤ x ∧ x ≤ 16777212 ∧ Hid (x = prFold ((bs s).take k))) (fun _ i => s.size - (intOf i).toNat)
    case atStart => exact ⟨0, 1, Nat.zero_le _, rfl, rfl, by omega, by omega, rfl⟩
    case round =>
      obtain ⟨k, x, hk, rfl, rfl, x0, x1, hx⟩ := hrel
      by_cases hlt : k < s.size
      · have hc := hid (prFold_succ (bs_get s hlt))
        have hst := prStep_in x s[k]
        have hlb : (s[k].toNat : Int) ≤ 255 := by have := s[k].toNat_lt; omega
        have HE := hid (show (x * 257 + (s[k].toNat : Int)) % 16777213 = prStep x s[k] from rfl)
        go_wp2
        go_round
        case rel => exact ⟨k + 1, prStep x s[k], by omega, by go_num, by first | rfl | (rw [HE.out]), hst.1, hst.2, by unfold Hid; rw [hc.out, ← hx.out]⟩
        case measure => simp [intOf]; omega
      · have HX := hid (show printOf (bs s) = x by rw [HO.out, hx.out, take_all (n := s.size) (by simp) (show s.size ≤ k by omega)])
        go_wp2
        go_ret
        exact ⟨ret_i HX.out.symm, rfl⟩

set_option maxHeartbeats 400000 in
theorem spec_PrintOf_c (s : ByteArray) (w : World) (hs : s.size ≤ 4611686018427387904) :
    Calls Tryd.prog 53 #[.string s] w fun e w' => e = .returned (.int .i64 (printOf (bs s))) ∧ w = w' := by
  cases ht : textOk (bs s)
  · have HO := hid (printOf_off ht)
    go_enter Tryd.func53, Tryd.ntmps53
    go_wp2_with (go_at_call 52; refine (spec_TextValid_c _ _ hs).mono ?_; rw [ht]; rintro e w' ⟨rfl, rfl⟩)
    go_ret
    exact ⟨ret_i HO.out.symm, rfl⟩
  · have HO := hid (printOf_on ht)
    have h60 := textOk_len ht
    rw [bs_len] at h60
    go_enter Tryd.func53, Tryd.ntmps53
    go_wp2_with (go_at_call 52; refine (spec_TextValid_c _ _ hs).mono ?_; rw [ht]; rintro e w' ⟨rfl, rfl⟩)
    clear ht
    go_loop [3, 4] (fun n i => ∃ (k : Nat) (x : Int), k ≤ s.size ∧ i = .int .i64 k ∧ n = .int .i64 x ∧ 0 ≤ x ∧ x ≤ 16777212 ∧ Hid (x = prFold ((bs s).take k))) (fun _ i => s.size - (intOf i).toNat)
    case atStart => exact ⟨0, 1, Nat.zero_le _, rfl, rfl, by omega, by omega, rfl⟩
    case round =>
      obtain ⟨k, x, hk, rfl, rfl, x0, x1, hx⟩ := hrel
      by_cases hlt : k < s.size
      · have hc := hid (prFold_succ (bs_get s hlt))
        have hst := prStep_in x s[k]
        have hlb : (s[k].toNat : Int) ≤ 255 := by have := s[k].toNat_lt; omega
        have HE := hid (show (257 * x + (s[k].toNat : Int)) % 16777213 = prStep x s[k] by rw [Int.mul_comm]; rfl)
        go_wp2
        go_round
        case rel => exact ⟨k + 1, prStep x s[k], by omega, by go_num, by first | rfl | (rw [HE.out]), hst.1, hst.2, by unfold Hid; rw [hc.out, ← hx.out]⟩
        case measure => simp [intOf]; omega
      · have HX := hid (show printOf (bs s) = x by rw [HO.out, hx.out, take_all (n := s.size) (by simp) (show s.size ≤ k by omega)])
        go_wp2
        go_ret
        exact ⟨ret_i HX.out.symm, rfl⟩



theorem pairs_succ {l : List Int} {k : Nat} {x : Int} (h : l[k]? = some x) : (l.take (k + 1)).foldl pair 5 = pair ((l.take k).foldl pair 5) x := foldl_succ _ _ h


theorem pairs_neg {l : List Int} : ∀ {n : Int}, pv n = true → l.all pv = true → ¬ (l.foldl pair n < 0) := by
  intro n h h'
  have := pv_iff.1 (pairs_in h h')
  omega


/-- A word's beginning. -/
def wpre (l : List UInt8) : Bool := !(l.head?.any fun c => isDig c.toNat) && l.all wordCh
theorem wpre_zero {l : List UInt8} {c : UInt8} (h : l[0]? = some c) (hs : isSm c.toNat = true) : wpre (l.take 1) = true := by
  have hd : isDig c.toNat = false := by
    have := inB_yes hs
    simp [isDig, inB]; omega
  rw [take_snoc' h]
  simp [wpre, wordCh, hs, hd]
theorem wpre_succ {l : List UInt8} {k : Nat} {c : UInt8} (h : l[k]? = some c) (hk : 0 < k) (hw : wordCh c = true) (hp : wpre (l.take k) = true) : wpre (l.take (k + 1)) = true := by
  obtain ⟨j, rfl⟩ : ∃ j, k = j + 1 := ⟨k - 1, by omega⟩
  unfold wpre at hp ⊢
  rw [all_succ wordCh h, hw]
  cases l with
  | nil => simp at h
  | cons x r => simpa using hp
theorem word_no1 {l : List UInt8} {k : Nat} {c : UInt8} (h : l[k]? = some c) (hw : wordCh c = false) : wordOk l = false := by
  unfold wordOk; rw [all_no wordCh h hw]; simp
theorem word_no2 {l : List UInt8} {c : UInt8} (h : l[0]? = some c) (hs : isSm c.toNat = false) : wordOk l = false := by
  cases hd : isDig c.toNat
  · exact word_no1 h (by simp [wordCh, hs, hd])
  · cases l with
    | nil => simp at h
    | cons x r => simp at h; subst h; simp [wordOk, hd]

set_option maxHeartbeats 400000 in
theorem spec_WordValid_c (s : ByteArray) (w : World) (hs : s.size ≤ 4611686018427387904) :
    Calls Tryd.prog 81 #[.string s] w fun e w' => e = .returned (.bool (wordOk (bs s))) ∧ w = w' := by
  go_enter Tryd.func81, Tryd.ntmps81
  go_wp2
  go_loop [3] (fun i => ∃ k : Nat, k ≤ s.size ∧ i = .int .i64 k ∧ Hid (wpre ((bs s).take k) = true)) (fun i => s.size - (intOf i).toNat)
  case atStart => exact ⟨0, Nat.zero_le _, rfl, rfl⟩
  case round =>
    obtain ⟨k, hk, rfl, hall⟩ := hrel
    by_cases hlt : k < s.size
    · have hx := hid (bs_get s hlt)
      by_cases c1 : (s[k].toNat : Int) < 97
      · by_cases hk0 : k = 0
        · subst hk0
          have HN := hid (word_no2 hx.out (show isSm s[0].toNat = false by simp [isSm, inB]; omega))
          go_wp2
          go_ret
          exact ⟨ret_b HN.out.symm, rfl⟩
        · have hkb : ((k : Int) == 0) = false := beq_eq_false_iff_ne.2 (by omega)
          by_cases c2 : (s[k].toNat : Int) < 48
          · have HN := hid (word_no1 hx.out (show wordCh s[k] = false by simp [wordCh, isSm, isDig, inB]; omega))
            go_wp2
            go_ret
            exact ⟨ret_b HN.out.symm, rfl⟩
          · by_cases c3 : 57 < (s[k].toNat : Int)
            · have HN := hid (word_no1 hx.out (show wordCh s[k] = false by simp [wordCh, isSm, isDig, inB]; omega))
              go_wp2
              go_ret
              exact ⟨ret_b HN.out.symm, rfl⟩
            · have HY := hid (wpre_succ hx.out (by omega) (show wordCh s[k] = true by simp [wordCh, isDig, inB]; omega) hall.out)
              go_wp2
              go_round
              case rel => exact ⟨k + 1, by omega, by go_num, HY.out⟩
              case measure => simp [intOf]; omega
      · by_cases c4 : 122 < (s[k].toNat : Int)
        · have hd4 : decide ((s[k].toNat : Int) ≤ 122) = false := by simp; omega
          by_cases hk0 : k = 0
          · subst hk0
            have HN := hid (word_no2 hx.out (show isSm s[0].toNat = false by simp [isSm, inB]; omega))
            go_wp2
            go_ret
            exact ⟨ret_b HN.out.symm, rfl⟩
          · have hkb : ((k : Int) == 0) = false := beq_eq_false_iff_ne.2 (by omega)
            have HN := hid (word_no1 hx.out (show wordCh s[k] = false by simp [wordCh, isSm, isDig, inB]; omega))
            go_wp2
            go_ret
            exact ⟨ret_b HN.out.symm, rfl⟩
        · have HS : isSm s[k].toNat = true := inB_iff.2 ⟨by omega, by omega⟩
          have HY : Hid (wpre ((bs s).take (k + 1)) = true) := by
            unfold Hid
            by_cases hk0 : k = 0
            · subst hk0; exact wpre_zero hx.out HS
            · exact wpre_succ hx.out (by omega) (by simp [wordCh, HS]) hall.out
          clear HS
          go_wp2
          go_round
          case rel => exact ⟨k + 1, by omega, by go_num, HY.out⟩
          case measure => simp [intOf]; omega
    · have hall' := hall.out
      rw [take_all (xs := bs s) (n := s.size) (by simp) (show s.size ≤ k by omega)] at hall'
      have HO : Hid (inB s.size 1 8 = wordOk (bs s)) := by
        unfold Hid
        simp only [wpre, Bool.and_eq_true] at hall'
        unfold wordOk
        rw [hall'.1, hall'.2, bs_len]
        simp only [inB, Bool.and_true]
        congr 1
        · simp; omega
        · simp; omega
      clear hall' hall
      go_wp2_with (go_at_call 80; refine (spec_l1In_c _ _ _ _).mono ?_; rintro e w' ⟨rfl, rfl⟩)
      go_ret
      exact ⟨ret_b HO.out, rfl⟩

end Go.Proofs.YtfdhaigmekmboaaDoor

/- Walks: whether a list has a number. -/
namespace Go.Proofs.YtfdhaigmekmboaaDoor
open Go.RowKit

/-- A beginning of a slice. -/
theorem Rd.front {w : World} {B n k c : Nat} {a : Option Addr} {xs : List Int} (h : Ints w B (.slice a n c) xs) (hk : k ≤ n) : Ints w B (.slice a k c) (xs.take k) := by
  obtain ⟨a', c', he, g1, g2, g3, g4⟩ := h
  simp only [Value.slice.injEq] at he
  obtain ⟨rfl, hn, rfl⟩ := he
  have hlen : (xs.take k).length = k := by simp; omega
  refine ⟨a, c, by rw [hlen], by omega, g2, by rw [← List.map_eq_flatMap, List.length_map, hlen]; omega, fun hk0 => ?_⟩
  obtain ⟨b, o, rfl, hb, hat⟩ := g4 (by omega)
  refine ⟨b, o, rfl, hb, fun j u hu => hat j u ?_⟩
  rw [← List.map_eq_flatMap] at hu ⊢
  rw [List.getElem?_map] at hu ⊢
  rw [List.getElem?_take] at hu
  split at hu
  · exact hu
  · simp at hu

/-- A beginning of a row of the call's own. -/
def OwnCut (w : World) (B : Nat) (v : Value) (xs : List Int) : Prop :=
  ∃ a n k c full, OwnI w B (.slice a n c) full ∧ full.length = n ∧ v = .slice a k c ∧ k ≤ n ∧ xs = full.take k
theorem OwnCut.of {w : World} {B : Nat} {v : Value} {xs : List Int} (h : OwnI w B v xs) : OwnCut w B v xs := by
  obtain ⟨a, c, rfl, _, _, _⟩ := (Rd.of_own h).ints rfl
  exact ⟨a, _, _, c, xs, h, rfl, rfl, Nat.le_refl _, by simp⟩
theorem OwnCut.rd {w : World} {B : Nat} {v : Value} {xs : List Int} (h : OwnCut w B v xs) : Ints w w.heap.size v xs := by
  obtain ⟨a, n, k, c, full, ho, hn, rfl, hk, rfl⟩ := h
  exact (Rd.of_own ho).front hk
theorem OwnCut.far {w w' : World} {B : Nat} {v : Value} {xs : List Int} {row : Option Nat} (h : OwnCut w B v xs) (hg : w.grownBy w' row) (hr : ∀ g, row = some g → g < B) : OwnCut w' B v xs := by
  obtain ⟨a, n, k, c, full, ho, hn, rfl, hk, rfl⟩ := h
  exact ⟨a, n, k, c, full, ho.far hg hr, hn, rfl, hk, rfl⟩
theorem OwnCut.on {w w' : World} {B : Nat} {v : Value} {xs : List Int} (h : OwnCut w B v xs) (hb : Below w.heap.size w w') : OwnCut w' B v xs := by
  obtain ⟨a, n, k, c, full, ho, hn, rfl, hk, rfl⟩ := h
  exact ⟨a, n, k, c, full, ho.on hb, hn, rfl, hk, rfl⟩
theorem OwnCut.less {w : World} {B B' : Nat} {v : Value} {xs : List Int} (h : OwnCut w B v xs) (hB : B' ≤ B) : OwnCut w B' v xs := by
  obtain ⟨a, n, k, c, full, ho, hn, rfl, hk, rfl⟩ := h
  exact ⟨a, n, k, c, full, ho.less hB, hn, rfl, hk, rfl⟩
theorem OwnCut.nil {w : World} {B : Nat} : OwnCut w B (.slice none 0 0) [] := OwnCut.of Own.nil_

set_option maxHeartbeats 400000 in
theorem slices_Index_c (v : Value) (xs : List Int) (y : Int) (B : Nat) (w : World) (h : Ints w B v xs) :
    Calls Tryd.prog 58 #[v, .int .i64 y] w fun e w' => (∃ i : Int, e = .returned (.int .i64 i) ∧ decide (0 ≤ i) = hasI xs y) ∧ w = w' := by
  obtain ⟨n, hn⟩ : ∃ n, xs.length = n := ⟨_, rfl⟩
  obtain ⟨a, c, rfl, h1, h2, h3⟩ := h.ints hn
  have HN := hid hn
  clear hn h
  go_enter Tryd.func58, Tryd.ntmps58
  go_wp2
  go_loop [8] (fun i => ∃ k : Nat, k ≤ n ∧ i = .int .i64 k ∧ Hid (hasI (xs.take k) y = false)) (fun i => n - (intOf i).toNat)
  case atStart => exact ⟨0, Nat.zero_le _, rfl, rfl⟩
  case round =>
    obtain ⟨k, hk, rfl, hall⟩ := hrel
    by_cases hlt : k < n
    · obtain ⟨b, o, x, rfl, hb, hx, hc⟩ := h3 k hlt
      clear h3
      by_cases hxy : x = y
      · subst hxy
        go_wp2
        go_ret
        exact ⟨⟨k, rfl, by rw [hasI_get hx.out]; simp⟩, rfl⟩
      · have hb2 : (y == x) = false := by simp; omega
        have HX := hid hxy
        clear hxy
        go_wp2
        go_round
        case rel => exact ⟨k + 1, by omega, by go_num, hasI_succ hx.out HX.out hall.out⟩
        case measure => simp [intOf]; omega
    · have HH := hid (show hasI xs y = false by rw [← take_all HN.out (show n ≤ k by omega)]; exact hall.out)
      go_wp2
      go_ret
      exact ⟨⟨-1, rfl, by rw [HH.out]; simp⟩, rfl⟩

set_option maxHeartbeats 400000 in
theorem slices_Contains_c (v : Value) (xs : List Int) (y : Int) (B : Nat) (w : World) (h : Ints w B v xs) :
    Calls Tryd.prog 35 #[v, .int .i64 y] w fun e w' => e = .returned (.bool (hasI xs y)) ∧ w = w' := by
  obtain ⟨n, hn⟩ : ∃ n, xs.length = n := ⟨_, rfl⟩
  obtain ⟨a, c, rfl, h1, h2, h3⟩ := h.ints hn
  clear h3
  go_enter Tryd.func35, Tryd.ntmps35
  go_wp2_with fail
  refine (slices_Index_c _ xs y _ _ h).mono ?_
  rintro e w' ⟨⟨i, rfl, hi⟩, rfl⟩
  go_wp2
  go_ret
  exact ⟨rfl, rfl⟩

set_option maxHeartbeats 400000 in
theorem spec_l19Has_c (v : Value) (xs : List Int) (y : Int) (B : Nat) (w : World) (h : Ints w B v xs) :
    Calls Tryd.prog 41 #[v, .int .i64 y] w fun e w' => e = .returned (.bool (hasI xs y)) ∧ w = w' := by
  obtain ⟨n, hn⟩ : ∃ n, xs.length = n := ⟨_, rfl⟩
  obtain ⟨a, c, rfl, h1, h2, h3⟩ := h.ints hn
  have HN := hid hn
  clear hn h
  go_enter Tryd.func41, Tryd.ntmps41
  go_wp2
  go_loop [5] (fun i => ∃ k : Nat, k ≤ n ∧ i = .int .i64 k ∧ Hid (hasI (xs.take k) y = false)) (fun i => n - (intOf i).toNat)
  case atStart => exact ⟨0, Nat.zero_le _, rfl, rfl⟩
  case round =>
    obtain ⟨k, hk, rfl, hall⟩ := hrel
    by_cases hlt : k < n
    · obtain ⟨b, o, x, rfl, hb, hx, hc⟩ := h3 k hlt
      clear h3
      by_cases hxy : x = y
      · subst hxy
        go_wp2
        go_ret
        exact ⟨ret_b (hasI_get hx.out).symm, rfl⟩
      · have hb2 : (x == y) = false := by simp; omega
        have HX := hid hxy
        clear hxy
        go_wp2
        go_round
        case rel => exact ⟨k + 1, by omega, by go_num, hasI_succ hx.out HX.out hall.out⟩
        case measure => simp [intOf]; omega
    · have HH := hid (show hasI xs y = false by rw [← take_all HN.out (show n ≤ k by omega)]; exact hall.out)
      go_wp2
      go_ret
      exact ⟨ret_b HH.out.symm, rfl⟩

set_option maxHeartbeats 400000 in
theorem laws_hasInt_c (v : Value) (xs : List Int) (y : Int) (B : Nat) (w : World) (h : Ints w B v xs) :
    Calls Tryd.prog 15 #[v, .int .i64 y] w fun e w' => e = .returned (.bool (hasI xs y)) ∧ w = w' := by
  obtain ⟨n, hn⟩ : ∃ n, xs.length = n := ⟨_, rfl⟩
  obtain ⟨a, c, rfl, h1, h2, h3⟩ := h.ints hn
  have HN := hid hn
  clear hn h
  go_enter Tryd.func15, Tryd.ntmps15
  go_wp2
  go_loop [5] (fun i => ∃ k : Nat, k ≤ n ∧ i = .int .i64 k ∧ Hid (hasI (xs.take k) y = false)) (fun i => n - (intOf i).toNat)
  case atStart => exact ⟨0, Nat.zero_le _, rfl, rfl⟩
  case round =>
    obtain ⟨k, hk, rfl, hall⟩ := hrel
    by_cases hlt : k < n
    · obtain ⟨b, o, x, rfl, hb, hx, hc⟩ := h3 k hlt
      clear h3
      by_cases hxy : x = y
      · subst hxy
        go_wp2
        go_ret
        exact ⟨ret_b (hasI_get hx.out).symm, rfl⟩
      · have hb2 : (x == y) = false := by simp; omega
        have HX := hid hxy
        clear hxy
        go_wp2
        go_round
        case rel => exact ⟨k + 1, by omega, by go_num, hasI_succ hx.out HX.out hall.out⟩
        case measure => simp [intOf]; omega
    · have HH := hid (show hasI xs y = false by rw [← take_all HN.out (show n ≤ k by omega)]; exact hall.out)
      go_wp2
      go_ret
      exact ⟨ret_b HH.out.symm, rfl⟩

end Go.Proofs.YtfdhaigmekmboaaDoor

/- Walks: rows of entries, valid entries. -/
namespace Go.Proofs.YtfdhaigmekmboaaDoor
open Go.RowKit

abbrev encE (e : Ent) : List Value := [.string e.name, .int .i64 e.print]
abbrev Ents := Rd encE 2
abbrev OwnE := Own encE 37 2
theorem Rd.ents {w : World} {B n : Nat} {v : Value} {xs : List Ent} (h : Ents w B v xs) (hn : xs.length = n) :
    ∃ a c, v = .slice a n c ∧ n ≤ c ∧ c ≤ 9223372036854775807 ∧
      ∀ i, i < n → ∃ (b o : Nat) (t : ByteArray) (r : Int), a = some ⟨b, o, none⟩ ∧ b < B ∧ Hid (xs[i]? = some ⟨t, r⟩) ∧ w.cell? ⟨b, o + i * 2, none⟩ = some (.string t) ∧ w.cell? ⟨b, o + i * 2 + 1, none⟩ = some (.int .i64 r) := by
  obtain ⟨a, c, hv, h1, h2, h3⟩ := Rd.openN h (fun _ => rfl) hn
  refine ⟨a, c, hv, h1, h2, fun i hi => ?_⟩
  obtain ⟨b, o, ⟨t, r⟩, ha, hb, hx, hc⟩ := h3 i hi
  exact ⟨b, o, t, r, ha, hb, hx, by simpa using hc 0 _ rfl, by simpa [Nat.add_assoc] using hc 1 _ rfl⟩

/-! ### Plain facts -/
def lastN (p : Option ByteArray) (l : List Ent) : Nat → Option ByteArray
  | 0 => p
  | k + 1 => match l[k]? with | some e => some e.name | none => p
def ltO : Option ByteArray → ByteArray → Bool
  | some b, c => ltN b c
  | none, _ => true
theorem lastN_succ {p : Option ByteArray} {l : List Ent} {k : Nat} {x : Ent} (h : l[k]? = some x) : lastN p l (k + 1) = some x.name := by simp [lastN, h]
theorem entsFrom_cons (p : Option ByteArray) (e : Ent) (r : List Ent) : entsFrom p (e :: r) = (entOk e && ltO p e.name && entsFrom (some e.name) r) := by cases p <;> rfl
theorem entsFrom_succ : ∀ (l : List Ent) (p : Option ByteArray) (k : Nat) (x : Ent), l[k]? = some x → entsFrom p (l.take (k + 1)) = (entsFrom p (l.take k) && (entOk x && ltO (lastN p l k) x.name))
  | [], p, k, x, h => by simp at h
  | e :: r, p, 0, x, h => by
    simp at h; subst h
    simp [entsFrom_cons, entsFrom, lastN]
  | e :: r, p, 1, x, h => by
    have := entsFrom_succ r (some e.name) 0 x (by simpa using h)
    simp only [List.take_succ_cons, entsFrom_cons]
    rw [this]
    simp [entsFrom, lastN, Bool.and_assoc]
  | e :: r, p, k + 2, x, h => by
    have hg : r[k + 1]? = some x := by simpa using h
    have := entsFrom_succ r (some e.name) (k + 1) x hg
    have hk : k < r.length := by have := (List.getElem?_eq_some_iff.1 hg).1; omega
    simp only [List.take_succ_cons, entsFrom_cons] at this ⊢
    rw [this]
    simp [lastN, List.getElem?_eq_getElem hk, Bool.and_assoc]
theorem entsFrom_take : ∀ (l : List Ent) (p : Option ByteArray) (k : Nat), entsFrom p l = true → entsFrom p (l.take k) = true
  | [], p, k, _ => by simp [entsFrom]
  | e :: r, p, 0, _ => rfl
  | e :: r, p, k + 1, h => by
    rw [entsFrom_cons, Bool.and_eq_true] at h
    rw [List.take_succ_cons, entsFrom_cons, h.1, entsFrom_take r _ k h.2]; rfl
theorem ent_no {l : List Ent} {k : Nat} {x : Ent} (h : l[k]? = some x) (hv : (entOk x && ltO (lastN none l k) x.name) = false) : entsOk l = false := by
  cases hh : entsFrom none l
  · simp [entsOk, hh]
  · have := entsFrom_take l none (k + 1) hh
    rw [entsFrom_succ l none k x h, hv, Bool.and_false] at this
    cases this
theorem ent_long {l : List Ent} (h : 3 < l.length) : entsOk l = false := by simp [entsOk]; omega
theorem ent_step {l : List Ent} {k : Nat} {x : Ent} (h : l[k]? = some x) (h0 : entsFrom none (l.take k) = true) (h1 : entOk x = true) (h2 : ltO (lastN none l k) x.name = true) : entsFrom none (l.take (k + 1)) = true := by
  rw [entsFrom_succ l none k x h, h0, h1, h2]; rfl
theorem entOk_no1 {t : ByteArray} {r : Int} (h : wordOk (bs t) = false) (y : Bool) : (entOk ⟨t, r⟩ && y) = false := by simp [entOk, h]
theorem entOk_no2 {t : ByteArray} {r : Int} (h : pv r = false) (y : Bool) : (entOk ⟨t, r⟩ && y) = false := by simp [entOk, h]
theorem entOk_yes {t : ByteArray} {r : Int} (h : wordOk (bs t) = true) (h' : pv r = true) : entOk ⟨t, r⟩ = true := by simp [entOk, h, h']
theorem ltN_eq (a b : ByteArray) : Go.Op.bytesLess a.toList b.toList = ltN a b := by rw [ByteArray.toList_eq, ByteArray.toList_eq]; rfl
theorem bl_total : ∀ (a b : List UInt8), (Go.Op.bytesLess b a || b == a) = !Go.Op.bytesLess a b
  | [], [] => by simp [Go.Op.bytesLess]
  | [], _ :: _ => by simp [Go.Op.bytesLess]
  | _ :: _, [] => by simp [Go.Op.bytesLess]
  | x :: r, y :: s => by
    have ih := bl_total r s
    simp only [Go.Op.bytesLess]
    by_cases h : x = y
    · subst h
      have e1 : (x :: s == x :: r) = (s == r) := by rw [Bool.eq_iff_iff, beq_iff_eq, beq_iff_eq]; simp
      have e2 : decide (x < x) = false := decide_eq_false (UInt8.lt_irrefl x)
      have e3 : (x == x) = true := by simp
      rw [e1, e2, e3, Bool.false_or, Bool.true_and, Bool.false_or, Bool.true_and]
      exact ih
    · by_cases h2 : x < y
      · have h3 : ¬ y < x := fun h4 => absurd (UInt8.lt_trans h2 h4) (UInt8.lt_irrefl _)
        simp [h2, h3, Ne.symm h]
      · have h3 : y < x := by
          rcases UInt8.lt_or_lt_of_ne h with h4 | h4
          · exact absurd h4 h2
          · exact h4
        simp [h, h2, h3]
theorem ltN_total (a b : ByteArray) : (Go.Op.bytesLess b.toList a.toList || b.toList == a.toList) = !ltN a b := by
  rw [ByteArray.toList_eq, ByteArray.toList_eq]; exact bl_total _ _

set_option maxHeartbeats 2000000 in
set_option maxRecDepth 100000 in
theorem impl_EntriesValid_c (v : Value) (xs : List Ent) (w : World) (h : Ents w w.heap.size v xs) :
    Calls Tryd.prog 62 #[v] w fun e w' => e = .returned (.bool (entsOk xs)) ∧ Below w.heap.size w w' := by
  obtain ⟨n, hn⟩ : ∃ n, xs.length = n := ⟨_, rfl⟩
  obtain ⟨a, c, rfl, h1, h2, h3⟩ := h.ents hn
  have HN := hid hn
  clear hn h
  by_cases c1 : 3 < n
  · have HO := hid (ent_long (l := xs) (by rw [HN.out]; exact c1))
    clear h3
    go_enter Tryd.func62, Tryd.ntmps62
    go_wp2
    go_ret
    exact ⟨ret_b HO.out.symm, Below.refl _ _⟩
  · go_enter Tryd.func62, Tryd.ntmps62
    go_wp2
    go_loopw [10] (fun i wr => ∃ k : Nat, k ≤ n ∧ i = .int .i64 k ∧ Hid (entsFrom none (xs.take k) = true) ∧ Below w.heap.size w wr) (fun i _ => n - (intOf i).toNat)
    case atStart => exact ⟨0, Nat.zero_le _, rfl, rfl, Below.refl _ _⟩
    case round =>
      obtain ⟨k, hk, rfl, hall, hb⟩ := hrel
      by_cases hlt : k < n
      · obtain ⟨b, o, t, r, rfl, hbl, hx, k0, k1⟩ := h3 k hlt
        have j0 := (hb.cell (p := ⟨b, o + k * 2, none⟩) hbl).trans k0
        have j1 := (hb.cell (p := ⟨b, o + k * 2 + 1, none⟩) hbl).trans k1
        have HAL : Hid (∀ cs q, Below w.heap.size w ((wr.alloc (.cells cs 37)).drewN q)) := fun cs q => bl_drewN (hb.alloc hb.size _) q
        have HAL0 : Hid (∀ cs, Below w.heap.size w (wr.alloc (.cells cs 37))) := fun cs => hb.alloc hb.size _
        clear k0 k1
        cases ht : wordOk (bs t)
        · have HO := hid (ent_no hx.out (entOk_no1 ht _))
          clear h3
          go_wp2_with (go_at_call 34; refine (impl_WordValid_c _ _).mono ?_; rw [ht]; rintro e w' ⟨rfl, rfl⟩)
          go_ret
          exact ⟨ret_b HO.out.symm, HAL0.out _⟩
        · have HT := hid ht
          clear ht
          cases hp : inB r 0 16777212
          · have HO := hid (ent_no hx.out (entOk_no2 hp _))
            clear h3
            go_wp2_with (first | (go_at_call 34; refine (impl_WordValid_c _ _).mono ?_; rw [HT.out]; rintro e w' ⟨rfl, rfl⟩) | (go_at_call 73; refine (impl_printValid_c _ _).mono ?_; rw [hp]; rintro e w' ⟨rfl, rfl⟩))
            go_ret
            exact ⟨ret_b HO.out.symm, HAL0.out _⟩
          · have HE := hid (entOk_yes HT.out hp)
            have HP := hid hp
            clear hp
            by_cases hk0 : k = 0
            · have hd0 : decide (0 < k) = false := by simp; omega
              have HS := hid (ent_step hx.out hall.out HE.out (by rw [hk0]; rfl))
              clear h3 hk0
              go_wp2_with (first | (go_at_call 34; refine (impl_WordValid_c _ _).mono ?_; rw [HT.out]; rintro e w' ⟨rfl, rfl⟩) | (go_at_call 73; refine (impl_printValid_c _ _).mono ?_; rw [HP.out]; rintro e w' ⟨rfl, rfl⟩))
              go_quiet (fail)
              go_wp2
              go_roundw
              case rel => exact ⟨k + 1, by omega, by go_num, HS.out, HAL.out _ _⟩
              case measure => simp [intOf]; omega
            · obtain ⟨j, hj⟩ : ∃ j, k = j + 1 := ⟨k - 1, by omega⟩
              obtain ⟨b', o', t', r', hbo, hbl', hx', k0', _⟩ := h3 j (by omega)
              simp only [Option.some.injEq, Addr.mk.injEq, and_true] at hbo
              obtain ⟨rfl, rfl⟩ := hbo
              have i0 := (hb.cell (p := ⟨b, o + j * 2, none⟩) hbl').trans k0'
              have i1 : (wr.alloc (.cells #[.string t, .int .i64 r] 37)).cell? ⟨b, o + j * 2, none⟩ = some (.string t') := (((Below.refl wr.heap.size wr).alloc (Nat.le_refl _) _).cell (p := ⟨b, o + j * 2, none⟩) (Nat.lt_of_lt_of_le hbl hb.size)).trans i0
              have hL := lastN_succ (p := none) hx'.out
              rw [← hj] at hL
              have hd0 : decide (0 < k) = true := by simp; omega
              have hkj : (k : Int) - 1 = (j : Int) := by omega
              have hw1 : IntKind.i64.wrap (j : Int) = (j : Int) := IntWalk.i64_in _ (by omega)
              have hjn : (j : Int) < n := by omega
              clear h3 k0' hk0 hj
              cases hlast : ltN t' t
              · have hd1 : Go.Op.bytesLess t'.toList t.toList = false := by rw [ltN_eq]; exact hlast
                have HO := hid (ent_no (l := xs) hx.out (by rw [hL]; simp only [ltO]; rw [hlast, Bool.and_false]))
                clear hlast hL hx'
                go_wp2_with (first | (go_at_call 34; refine (impl_WordValid_c _ _).mono ?_; rw [HT.out]; rintro e w' ⟨rfl, rfl⟩) | (go_at_call 73; refine (impl_printValid_c _ _).mono ?_; rw [HP.out]; rintro e w' ⟨rfl, rfl⟩))
                go_quiet (fail)
                go_wp2
                go_ret
                exact ⟨ret_b HO.out.symm, HAL.out _ _⟩
              · have hd1 : Go.Op.bytesLess t'.toList t.toList = true := by rw [ltN_eq]; exact hlast
                have HS := hid (ent_step hx.out hall.out HE.out (by rw [hL]; exact hlast))
                clear hlast hL hx'
                go_wp2_with (first | (go_at_call 34; refine (impl_WordValid_c _ _).mono ?_; rw [HT.out]; rintro e w' ⟨rfl, rfl⟩) | (go_at_call 73; refine (impl_printValid_c _ _).mono ?_; rw [HP.out]; rintro e w' ⟨rfl, rfl⟩))
                go_quiet (fail)
                go_wp2
                go_roundw
                case rel => exact ⟨k + 1, by omega, by go_num, HS.out, HAL.out _ _⟩
                case measure => simp [intOf]; omega
      · have hall' := hall.out
        rw [take_all HN.out (show n ≤ k by omega)] at hall'
        have HO := hid (show entsOk xs = true by unfold entsOk; rw [hall', HN.out]; simp; omega)
        clear hall' h3
        go_wp2
        go_ret
        exact ⟨ret_b HO.out.symm, hb⟩

theorem spec_WordValid_e (s : ByteArray) (w : World) {x : Bool} (hs : s.size ≤ 4611686018427387904) (h : wordOk (bs s) = x) :
    Calls Tryd.prog 81 #[.string s] w fun e w' => e = .returned (.bool x) ∧ w = w' := h ▸ spec_WordValid_c s w hs

theorem spec_l1In_e (n lo hi : Int) (w : World) {x : Bool} (h : inB n lo hi = x) :
    Calls Tryd.prog 80 #[.int .i64 n, .int .i64 lo, .int .i64 hi] w fun e w' => e = .returned (.bool x) ∧ w = w' := h ▸ spec_l1In_c n lo hi w

set_option maxHeartbeats 2000000 in
set_option maxRecDepth 100000 in
theorem spec_EntriesValid_c (v : Value) (xs : List Ent) (B : Nat) (w : World) (h : Ents w B v xs) (hx0 : ∀ x ∈ xs, x.name.size ≤ 1048576) (hl : xs.length ≤ 1048576) :
    Calls Tryd.prog 70 #[v] w fun e w' => e = .returned (.bool (entsOk xs)) ∧ ∃ q, w' = w.drewN q := by
  obtain ⟨n, hn⟩ : ∃ n, xs.length = n := ⟨_, rfl⟩
  obtain ⟨a, c, rfl, h1, h2, h3⟩ := h.ents hn
  rw [hn] at hl
  have HN := hid hn
  have HX := hid hx0
  clear hn h hx0
  go_enter Tryd.func70, Tryd.ntmps70
  go_wp2
  go_loopw [3] (fun i wr => ∃ k q : Nat, k ≤ n ∧ i = .int .i64 k ∧ Hid (entsFrom none (xs.take k) = true) ∧ wr = w.drewN q) (fun i _ => n - (intOf i).toNat)
  case atStart => exact ⟨0, 0, Nat.zero_le _, rfl, rfl, rfl⟩
  case round =>
    obtain ⟨k, q, hk, rfl, hall, rfl⟩ := hrel
    by_cases hlt : k < n
    · obtain ⟨b, o, t, r, rfl, hbl, hx, k0, k1⟩ := h3 k hlt
      have HTS := hid (show t.size ≤ 4611686018427387904 from Nat.le_trans (HX.out _ (List.mem_of_getElem? hx.out)) (by omega))
      cases ht : wordOk (bs t)
      · have HO := hid (ent_no hx.out (entOk_no1 ht _))
        have HT := hid ht
        clear h3 ht
        go_wp2
        go_quiet (first | (go_at_call 81; exact qsame (spec_WordValid_e _ _ HTS.out HT.out)) | fail)
        go_wp2
        go_ret
        exact ⟨ret_b HO.out.symm, _, World.drewN_drewN _ _ _⟩
      · have HT := hid ht
        clear ht
        cases hp : inB r 0 16777212
        · have HO := hid (ent_no hx.out (entOk_no2 hp _))
          have HP := hid hp
          clear h3 hp
          go_wp2
          go_quiet (first | (go_at_call 81; exact qsame (spec_WordValid_e _ _ HTS.out HT.out)) | (go_at_call 80; exact qsame (spec_l1In_e _ _ _ _ HP.out)))
          go_wp2
          go_ret
          exact ⟨ret_b HO.out.symm, _, World.drewN_drewN _ _ _⟩
        · have HE := hid (entOk_yes HT.out hp)
          have HP := hid hp
          clear hp
          by_cases hk0 : k = 0
          · have hd0 : decide (0 < k) = false := by simp; omega
            have HS := hid (ent_step hx.out hall.out HE.out (by rw [hk0]; rfl))
            clear h3 hk0
            go_wp2
            go_quiet (first | (go_at_call 81; exact qsame (spec_WordValid_e _ _ HTS.out HT.out)) | (go_at_call 80; exact qsame (spec_l1In_e _ _ _ _ HP.out)))
            go_wp2
            go_roundw
            case rel => exact ⟨k + 1, _, by omega, by go_num, HS.out, rfl⟩
            case measure => simp [intOf]; omega
          · obtain ⟨j, hj⟩ : ∃ j, k = j + 1 := ⟨k - 1, by omega⟩
            obtain ⟨b', o', t', r', hbo, hbl', hx', k0', _⟩ := h3 j (by omega)
            simp only [Option.some.injEq, Addr.mk.injEq, and_true] at hbo
            obtain ⟨rfl, rfl⟩ := hbo
            have hL := lastN_succ (p := none) hx'.out
            rw [← hj] at hL
            have hd0 : decide (0 < k) = true := by simp; omega
            have hkj : (k : Int) - 1 = (j : Int) := by omega
            have hw1 : IntKind.i64.wrap (j : Int) = (j : Int) := IntWalk.i64_in _ (by omega)
            have hjn : (j : Int) < n := by omega
            clear h3 hk0 hj
            cases hlast : ltN t' t
            · have hd1 : (Go.Op.bytesLess t.toList t'.toList || t.toList == t'.toList) = true := by rw [ltN_total, hlast]; rfl
              have HO := hid (ent_no (l := xs) hx.out (by rw [hL]; simp only [ltO]; rw [hlast, Bool.and_false]))
              clear hlast hL hx'
              go_wp2
              go_quiet (first | (go_at_call 81; exact qsame (spec_WordValid_e _ _ HTS.out HT.out)) | (go_at_call 80; exact qsame (spec_l1In_e _ _ _ _ HP.out)))
              go_wp2
              go_ret
              exact ⟨ret_b HO.out.symm, _, World.drewN_drewN _ _ _⟩
            · have hd1 : (Go.Op.bytesLess t.toList t'.toList || t.toList == t'.toList) = false := by rw [ltN_total, hlast]; rfl
              have HS := hid (ent_step hx.out hall.out HE.out (by rw [hL]; exact hlast))
              clear hlast hL hx'
              go_wp2
              go_quiet (first | (go_at_call 81; exact qsame (spec_WordValid_e _ _ HTS.out HT.out)) | (go_at_call 80; exact qsame (spec_l1In_e _ _ _ _ HP.out)))
              go_wp2
              go_roundw
              case rel => exact ⟨k + 1, _, by omega, by go_num, HS.out, rfl⟩
              case measure => simp [intOf]; omega
    · have hall' := hall.out
      rw [take_all HN.out (show n ≤ k by omega)] at hall'
      have HO := hid (show entsOk xs = decide ((n : Int) ≤ 3) by unfold entsOk; rw [hall', HN.out]; simp; omega)
      clear hall' h3
      go_wp2
      go_ret
      exact ⟨ret_b HO.out.symm, q, rfl⟩

end Go.Proofs.YtfdhaigmekmboaaDoor

/- Walks: digits in the base 16, as Go's library makes them. -/
namespace Go.Proofs.YtfdhaigmekmboaaDoor
open Go.RowKit

/-- What the walks ask of the library's variables: one cell of a table. -/
def Glob (w : World) : Prop := w.cell? ⟨3, 15, none⟩ = some (.int .u8 4)
theorem Glob.on {w w' : World} (h : Glob w) (hb : Below w.heap.size w w') : Glob w' := by
  exact (hb.cell (World.block_lt_of_cell? w _ h)).trans h

set_option maxHeartbeats 400000 in
theorem pow2_c (w : World) :
    Calls Tryd.prog 106 #[.int .i64 16] w fun e w' => e = .returned (.bool true) ∧ w = w' := by
  have h1 : bits .and .i64 16 15 = 0 := by decide
  go_enter Tryd.func106, Tryd.ntmps106
  go_wp2
  go_ret
  exact ⟨rfl, rfl⟩

set_option maxHeartbeats 400000 in
theorem zeros64_c (w : World) (h : w.cell? ⟨3, 15, none⟩ = some (.int .u8 4)) :
    Calls Tryd.prog 110 #[.int .u64 16] w fun e w' => e = .returned (.int .i64 4) ∧ w = w' := by
  have e1 : bits .and .u64 16 (IntKind.u64.wrap (-16)) = 16 := by decide
  have e2 : IntKind.u64.wrap 4573923408821661840 = 4573923408821661840 := by decide
  go_enter Tryd.func110, Tryd.ntmps110
  go_wp2
  go_ret
  exact ⟨rfl, rfl⟩

set_option maxHeartbeats 400000 in
theorem zeros_c (w : World) (h : w.cell? ⟨3, 15, none⟩ = some (.int .u8 4)) :
    Calls Tryd.prog 107 #[.int .u64 16] w fun e w' => e = .returned (.int .i64 4) ∧ w = w' := by
  go_enter Tryd.func107, Tryd.ntmps107
  go_wp2_with (go_at_call 110; refine (zeros64_c _ h).mono ?_; rintro e w' ⟨rfl, rfl⟩)
  go_ret
  exact ⟨rfl, rfl⟩

theorem add_one0 (g p : Nat) : (⟨g, 0, none⟩ : Addr).add (p * 1) = ⟨g, p, none⟩ := by unfold Addr.add; split <;> simp_all
theorem dig36 (d : Nat) (hd : d < 16) (h : d < (⟨#[48, 49, 50, 51, 52, 53, 54, 55, 56, 57, 97, 98, 99, 100, 101, 102, 103, 104, 105, 106, 107, 108, 109, 110, 111, 112, 113, 114, 115, 116, 117, 118, 119, 120, 121, 122]⟩ : ByteArray).size) : (⟨#[48, 49, 50, 51, 52, 53, 54, 55, 56, 57, 97, 98, 99, 100, 101, 102, 103, 104, 105, 106, 107, 108, 109, 110, 111, 112, 113, 114, 115, 116, 117, 118, 119, 120, 121, 122]⟩ : ByteArray)[d]'h = hexD d := by
  have : ∀ d : Fin 16, (⟨#[48, 49, 50, 51, 52, 53, 54, 55, 56, 57, 97, 98, 99, 100, 101, 102, 103, 104, 105, 106, 107, 108, 109, 110, 111, 112, 113, 114, 115, 116, 117, 118, 119, 120, 121, 122]⟩ : ByteArray)[d.val]'(Nat.lt_of_lt_of_le d.isLt (by decide)) = hexD d.val := by decide
  exact this ⟨d, hd⟩
theorem setCell_heap {w : World} {g i : Nat} {cs : Array Value} {t : TypeId} {v : Value} (h : w.heap[g]? = some (.cells cs t (0, 0))) : (w.setCell ⟨g, i, none⟩ v).heap[g]? = some (.cells (cs.setIfInBounds i v) t (0, 0)) := by
  rw [setCell_eq_setRow w g i cs t (0, 0) v h]
  exact setRow_heap w g cs _ t (0, 0) h
/-- One digit more, in front of those that stand. -/
theorem hex_front {cs : Array Value} {p : Nat} {D : List UInt8} {c : UInt8} {v : Value} (hp : p < cs.size) (hv : v = .int .u8 c.toNat) (h : ∀ (j : Nat) (x : UInt8), D[j]? = some x → cs[p + 1 + j]? = some (.int .u8 x.toNat)) : ∀ (j : Nat) (x : UInt8), (c :: D)[j]? = some x → (cs.setIfInBounds p v)[p + j]? = some (.int .u8 x.toNat) := by
  intro j x hj
  cases j with
  | zero =>
    simp at hj; subst hj
    rw [Nat.add_zero, Array.getElem?_setIfInBounds_self_of_lt hp, hv]
  | succ j =>
    rw [Array.getElem?_setIfInBounds_ne (by omega), show p + (j + 1) = p + 1 + j by omega]
    exact h j x (by simpa using hj)

set_option maxHeartbeats 2000000 in
set_option maxRecDepth 100000 in
theorem formatBits_c (n : Nat) (w : World) (hn : n < 16777216) (h : Glob w) :
    Calls Tryd.prog 98 #[.slice none 0 0, .int .u64 n, .int .i64 16, .bool false, .bool false] w fun e w' => e = .returned (.tuple #[.slice none 0 0, .string ⟨(hexF 6 n).toArray⟩]) ∧ Below w.heap.size w w' := by
  go_enter Tryd.func98, Tryd.ntmps98
  go_wp2_with (first | (go_at_call 106; refine (pow2_c _).mono ?_; rintro e w' ⟨rfl, rfl⟩) | (go_at_call 107; refine (zeros_c _ (h.on ((Below.refl _ _).alloc (Nat.le_refl _) _))).mono ?_; rintro e w' ⟨rfl, rfl⟩))
  go_loopw [1, 13] (fun uv iv wr => ∃ (f u p : Nat) (D : List UInt8) (cs : Array Value), uv = .int .u64 u ∧ iv = .int .i64 p ∧ p + D.length = 65 ∧ D.length + f = 5 ∧ u < 16 ^ (f + 1) ∧ u < 16777216 ∧ Hid (hexF (f + 1) u ++ D = hexF 6 n) ∧ wr.heap[w.heap.size]? = some (.cells cs 106 (0, 0)) ∧ cs.size = 65 ∧ Hid (∀ (j : Nat) (c : UInt8), D[j]? = some c → cs[p + j]? = some (.int .u8 c.toNat)) ∧ Below w.heap.size w wr) (fun uv _ _ => (intOf uv).toNat)
  case atStart => exact ⟨5, n, 65, [], _, rfl, rfl, rfl, rfl, by omega, hn, hid (List.append_nil _), heap_alloc_new _ _, by kernel_rfl, hid (fun j c hj => by simp at hj), (Below.refl _ _).alloc (Nat.le_refl _) _⟩
  case round =>
    obtain ⟨f, u, p, D, cs, rfl, rfl, hp, hf, hu, hu9, hD, hcell, hcs, hat, hb⟩ := hrel
    obtain ⟨p', rfl⟩ : ∃ p', p = p' + 1 := ⟨p - 1, by omega⟩
    have hpp : ((p' + 1 : Nat) : Int) - 1 = (p' : Int) := by omega
    have hp0 : p' < 65 := by omega
    obtain ⟨old, hold⟩ : ∃ old, cs[p']? = some old := ⟨cs[p']'(by omega), Array.getElem?_eq_getElem _⟩
    have hc0 : wr.cell? ⟨w.heap.size, p', none⟩ = some old := by simp only [World.cell?, hcell]; exact hold
    have hf0 : wr.frozen? ⟨w.heap.size, p', none⟩ = false := frozen_of_row _ _ _ _ _ hcell
    by_cases h16 : 16 ≤ u
    · obtain ⟨q, hq⟩ : ∃ q, u / 16 = q := ⟨_, rfl⟩
      obtain ⟨d, hd⟩ : ∃ d, u % 16 = d := ⟨_, rfl⟩
      have hd16 : d < 16 := by omega
      have hqi : (u : Int) / 16 = q := by omega
      have hand : bits .and .u64 (u : Int) 15 = (d : Int) := by
        have := bits_and_u64_nat u 15 (by omega) (by omega)
        rw [show ((15 : Nat) : Int) = 15 from rfl] at this
        rw [this, ← hd]
        have h2 := Nat.and_two_pow_sub_one_eq_mod u 4
        simp at h2
        rw [h2]
      obtain ⟨f', rfl⟩ : ∃ f', f = f' + 1 := by
        cases f with
        | zero => simp at hu; omega
        | succ f' => exact ⟨f', rfl⟩
      have hHF := hid (show hexF (f' + 1 + 1) u = hexF (f' + 1) q ++ [hexD d] by rw [hexF, if_neg (by omega), hq, hd])
      have hq9 : q < 16 ^ (f' + 1) := by rw [Nat.pow_succ] at hu; omega
      have HQ := hid hq9
      have hqu : q < u := by omega
      clear hu hq9 hq hd
      go_wp2
      go_roundw
      case rel =>
        refine ⟨f', q, p', hexD d :: D, _, rfl, rfl, by simp; omega, by simp; omega, HQ.out, by omega, hid ?_, setCell_heap hcell, by simp [hcs], hid (hex_front (by omega) (by rw [dig36 d hd16]) hat.out), hb.setCell (Nat.le_refl _) _⟩
        rw [← hD.out, hHF.out, List.append_assoc]; rfl
      case measure => simp [intOf]; omega
    · have hu16 : u < 16 := by omega
      have hHF := hid (show hexF (f + 1) u = [hexD u] by rw [hexF, if_pos hu16])
      have hfin := hid (show (hexD u :: D) = hexF 6 n by rw [← hD.out, hHF.out]; rfl)
      have hlen : (hexF 6 n).length = 65 - p' := by rw [← hfin.out]; simp; omega
      have hpc : ¬ (65 = p') := by omega
      have hlt36 : u < (⟨#[48, 49, 50, 51, 52, 53, 54, 55, 56, 57, 97, 98, 99, 100, 101, 102, 103, 104, 105, 106, 107, 108, 109, 110, 111, 112, 113, 114, 115, 116, 117, 118, 119, 120, 121, 122]⟩ : ByteArray).size := Nat.lt_of_lt_of_le hu16 (by decide)
      obtain ⟨W1, hW1⟩ : ∃ W1, W1 = wr.setCell ⟨w.heap.size, p', none⟩ (.int .u8 (((⟨#[48, 49, 50, 51, 52, 53, 54, 55, 56, 57, 97, 98, 99, 100, 101, 102, 103, 104, 105, 106, 107, 108, 109, 110, 111, 112, 113, 114, 115, 116, 117, 118, 119, 120, 121, 122]⟩ : ByteArray)[u]'hlt36).toNat : Int)) := ⟨_, rfl⟩
      have hcell1 : W1.heap[w.heap.size]? = some (.cells (cs.setIfInBounds p' (.int .u8 (((⟨#[48, 49, 50, 51, 52, 53, 54, 55, 56, 57, 97, 98, 99, 100, 101, 102, 103, 104, 105, 106, 107, 108, 109, 110, 111, 112, 113, 114, 115, 116, 117, 118, 119, 120, 121, 122]⟩ : ByteArray)[u]'hlt36).toNat : Int))) 106 (0, 0)) := by rw [hW1]; exact setCell_heap hcell
      have hb1 : Below w.heap.size w W1 := by rw [hW1]; exact hb.setCell (Nat.le_refl _) _
      have hat1 := hex_front (v := .int .u8 (((⟨#[48, 49, 50, 51, 52, 53, 54, 55, 56, 57, 97, 98, 99, 100, 101, 102, 103, 104, 105, 106, 107, 108, 109, 110, 111, 112, 113, 114, 115, 116, 117, 118, 119, 120, 121, 122]⟩ : ByteArray)[u]'hlt36).toNat : Int)) (c := hexD u) (by omega) (by rw [dig36 u hu16]) hat.out
      have m1 : (convert 22 9 (.slice (some ⟨w.heap.size, p', none⟩) (65 - p') (65 - p'))).run Tryd.prog W1 = .ok (.string ⟨(hexF 6 n).toArray⟩) W1 := by
        have := run_convert_bytes_back (P := Tryd.prog) W1 22 9 5 ⟨w.heap.size, p', none⟩ (65 - p') (hexF 6 n) Tryd.underlying22 Tryd.underlying5 Tryd.underlying9 (fun j hj => by
          rw [show (⟨w.heap.size, p', none⟩ : Addr).add j = ⟨w.heap.size, p' + j, none⟩ by unfold Addr.add; split <;> simp_all]
          simp only [World.cell?, hcell1]
          exact hat1 j _ (by rw [hfin.out, List.getElem?_eq_getElem hj]))
        rw [hlen] at this
        exact this
      have HL := hid hlen
      clear hlen hat1 hcell1
      have hal : Tryd.prog.arrayLen 106 = 65 := by kernel_rfl
      have hl1 : (p' : Int) ≤ Tryd.prog.arrayLen 106 := by rw [hal]; omega
      have m0 : ∀ W : World, (Instr.sliceAt 106 (.pointer (some ⟨w.heap.size, 0, none⟩)) (some (.int .i64 (p' : Int))) none none).run Tryd.prog W = .ok (.slice (some ⟨w.heap.size, p', none⟩) (65 - p') (65 - p')) W := fun W => by
        rw [run_sliceAt_array_l W 106 ⟨w.heap.size, 0, none⟩ (by kernel_rfl) .i64 (p' : Int) (by omega) hl1, show (Go.sizeOf (Tryd.prog.elem 106)).run Tryd.prog W = .ok 1 W by kernel_rfl, hal]
        simp only [Result.andThen, slicedAt, Int.toNat_natCast, if_neg hpc, add_one0]
      have m2 : (convert 22 9 (.slice (some ⟨w.heap.size, p', none⟩) (65 - p') (65 - p'))).run Tryd.prog (wr.setCell ⟨w.heap.size, p', none⟩ (.int .u8 (((⟨#[48, 49, 50, 51, 52, 53, 54, 55, 56, 57, 97, 98, 99, 100, 101, 102, 103, 104, 105, 106, 107, 108, 109, 110, 111, 112, 113, 114, 115, 116, 117, 118, 119, 120, 121, 122]⟩ : ByteArray)[u]'hlt36).toNat : Int))) = .ok (.string ⟨(hexF 6 n).toArray⟩) (wr.setCell ⟨w.heap.size, p', none⟩ (.int .u8 (((⟨#[48, 49, 50, 51, 52, 53, 54, 55, 56, 57, 97, 98, 99, 100, 101, 102, 103, 104, 105, 106, 107, 108, 109, 110, 111, 112, 113, 114, 115, 116, 117, 118, 119, 120, 121, 122]⟩ : ByteArray)[u]'hlt36).toNat : Int))) := by rw [← hW1]; exact m1
      have hbf : Below w.heap.size w (wr.setCell ⟨w.heap.size, p', none⟩ (.int .u8 (((⟨#[48, 49, 50, 51, 52, 53, 54, 55, 56, 57, 97, 98, 99, 100, 101, 102, 103, 104, 105, 106, 107, 108, 109, 110, 111, 112, 113, 114, 115, 116, 117, 118, 119, 120, 121, 122]⟩ : ByteArray)[u]'hlt36).toNat : Int))) := by rw [← hW1]; exact hb1
      clear hW1 m1
      go_wp2_with (first | simp only [m0] | simp only [m2])
      go_ret2
      exact ⟨rfl, hbf⟩

end Go.Proofs.YtfdhaigmekmboaaDoor

/- Walks: the texts of prints in the base 16, and what reads them. -/
namespace Go.Proofs.YtfdhaigmekmboaaDoor
open Go.RowKit

/-- A list of bytes as a string. -/
def strL (l : List UInt8) : ByteArray := ⟨l.toArray⟩
theorem bs_strL (l : List UInt8) : bs (strL l) = l := by simp [bs, strL]
theorem strL_bs (s : ByteArray) : strL (bs s) = s := by
  cases s with | mk a => simp [bs, strL]
theorem strL_size (l : List UInt8) : (strL l).size = l.length := by simp [strL, ByteArray.size]
theorem strL_append (a b : List UInt8) : strL a ++ strL b = strL (a ++ b) := by
  apply ByteArray.ext
  simp [strL, ByteArray.data_append]
theorem strL_ne {a b : List UInt8} : ((strL a).toList == (strL b).toList) = decide (a = b) := by
  rw [ByteArray.toList_eq, ByteArray.toList_eq]
  simp only [strL]
  by_cases h : a = b
  · simp [h]
  · simp [h]
theorem str_beq (s : ByteArray) (b : List UInt8) : ((strL b).toList == s.toList) = decide (b = bs s) := by
  rw [← strL_bs s, strL_ne, bs_strL]
theorem str_beq' (s : ByteArray) (b : List UInt8) : (s.toList == (strL b).toList) = decide (bs s = b) := by
  rw [← strL_bs s, strL_ne, bs_strL]

set_option maxHeartbeats 400000 in
theorem FormatInt_c (n : Nat) (w : World) (hn : n < 16777216) (h : Glob w) :
    Calls Tryd.prog 86 #[.int .i64 n, .int .i64 16] w fun e w' => e = .returned (.string (strL (hexF 6 n))) ∧ Below w.heap.size w w' := by
  go_enter Tryd.func86, Tryd.ntmps86
  go_wp2_with fail
  refine (formatBits_c n _ hn h).mono ?_
  rintro e w1 ⟨rfl, b1⟩
  go_wp2
  go_ret
  exact ⟨rfl, b1⟩

set_option maxHeartbeats 400000 in
theorem strconv_FormatInt_c (n : Nat) (w : World) (hn : n < 16777216) (h : Glob w) :
    Calls Tryd.prog 74 #[.int .i64 n, .int .i64 16] w fun e w' => e = .returned (.string (strL (hexF 6 n))) ∧ Below w.heap.size w w' := by
  go_enter Tryd.func74, Tryd.ntmps74
  go_wp2_with fail
  refine (FormatInt_c n _ hn h).mono ?_
  rintro e w1 ⟨rfl, b1⟩
  go_wp2
  go_ret
  exact ⟨rfl, b1⟩

set_option maxHeartbeats 400000 in
theorem impl_HexText_c (n : Int) (w : World) (h : Glob w) :
    Calls Tryd.prog 61 #[.int .i64 n] w fun e w' => e = .returned (.string (strL (hexT n))) ∧ Below w.heap.size w w' := by
  cases hp : inB n 0 16777212
  · have HO := hid (hexT_off hp)
    go_enter Tryd.func61, Tryd.ntmps61
    go_wp2_with (go_at_call 73; refine (impl_printValid_c _ _).mono ?_; rw [hp]; rintro e w' ⟨rfl, rfl⟩)
    go_ret
    exact ⟨by rw [HO.out]; rfl, Below.refl _ _⟩
  · obtain ⟨k, rfl⟩ : ∃ k : Nat, n = k := ⟨n.toNat, by have := inB_yes hp; omega⟩
    have hk := (inB_yes hp).2
    have HO := hid (hexT_on hp)
    have HP := hid hp
    clear hp
    go_enter Tryd.func61, Tryd.ntmps61
    go_wp2_with fail
    refine (impl_printValid_c _ _).mono ?_
    rw [HP.out]
    rintro e w' ⟨rfl, rfl⟩
    go_wp2_with fail
    refine (strconv_FormatInt_c k _ (by omega) h).mono ?_
    rintro e w1 ⟨rfl, b1⟩
    go_wp2
    go_ret
    exact ⟨by rw [HO.out]; rfl, b1⟩

theorem dig16 (d : Nat) (hd : d < 16) : (⟨#[48, 49, 50, 51, 52, 53, 54, 55, 56, 57, 97, 98, 99, 100, 101, 102]⟩ : ByteArray).extract d (d + 1) = strL [hexD d] := by
  have : ∀ d : Fin 16, (⟨#[48, 49, 50, 51, 52, 53, 54, 55, 56, 57, 97, 98, 99, 100, 101, 102]⟩ : ByteArray).extract d.val (d.val + 1) = strL [hexD d.val] := by decide
  exact this ⟨d, hd⟩

set_option maxHeartbeats 2000000 in
set_option maxRecDepth 100000 in
theorem spec_HexText_c (n : Int) (w : World) :
    Calls Tryd.prog 69 #[.int .i64 n] w fun e w' => e = .returned (.string (strL (hexT n))) ∧ w = w' := by
  cases hp : inB n 0 16777212
  · have HO := hid (hexT_off hp)
    go_enter Tryd.func69, Tryd.ntmps69
    go_wp2_with (go_at_call 80; refine (spec_l1In_c _ _ _ _).mono ?_; rw [hp]; rintro e w' ⟨rfl, rfl⟩)
    go_ret
    exact ⟨by rw [HO.out]; rfl, rfl⟩
  · obtain ⟨k, rfl⟩ : ∃ k : Nat, n = k := ⟨n.toNat, by have := inB_yes hp; omega⟩
    have hk := (inB_yes hp).2
    have HO := hid ((hexT_on hp).trans (show hexF 6 (Int.toNat (k : Int)) = hexF 6 k from rfl))
    have HP := hid hp
    obtain ⟨d, hd⟩ : ∃ d, k % 16 = d := ⟨_, rfl⟩
    have hd16 : d < 16 := by omega
    have hdi : (k : Int) % 16 = d := by omega
    have hdig := dig16 d hd16
    have HS := hid (show (if k < 16 then [] else hexF 5 (k / 16)) ++ [hexD d] = hexF 6 k by
      rw [show hexF 6 k = if k < 16 then [hexD k] else hexF 5 (k / 16) ++ [hexD (k % 16)] from rfl, ← hd]
      split
      · rw [Nat.mod_eq_of_lt (by assumption)]; rfl
      · rfl)
    clear hp hd
    go_enter Tryd.func69, Tryd.ntmps69
    go_wp2_with fail
    refine (spec_l1In_c _ _ _ _).mono ?_
    rw [HP.out]
    rintro e w' ⟨rfl, rfl⟩
    go_wp2
    go_loop [0, 4] (fun un out => ∃ (f u : Nat) (D : List UInt8), un = .int .i64 u ∧ out = .string (strL D) ∧ u < 16 ^ (f + 1) ∧ u < 16777216 ∧ D.length + f ≤ 6 ∧ Hid ((if u < 16 then [] else hexF f (u / 16)) ++ D = hexF 6 k)) (fun un _ => (intOf un).toNat)
    case atStart => exact ⟨5, k, [hexD d], rfl, rfl, by omega, by omega, by simp, HS⟩
    case round =>
      obtain ⟨f, u, D, rfl, rfl, hu, hu9, hDf, hD⟩ := hrel
      clear hdig hdi
      by_cases h16 : 16 ≤ u
      · obtain ⟨f', rfl⟩ : ∃ f', f = f' + 1 := by
          cases f with
          | zero => simp at hu; omega
          | succ f' => exact ⟨f', rfl⟩
        obtain ⟨q, hq⟩ : ∃ q, u / 16 = q := ⟨_, rfl⟩
        obtain ⟨e, he⟩ : ∃ e, q % 16 = e := ⟨_, rfl⟩
        have he16 : e < 16 := by omega
        have hqi : (u : Int) / 16 = q := by omega
        have hei : (q : Int) % 16 = e := by omega
        have hdg := dig16 e he16
        have hcat := strL_append [hexD e] D
        have hsz : (strL [hexD e] ++ strL D).size ≤ 9 := by rw [hcat, strL_size]; simp; omega
        have hsz1 := strL_size [hexD e]
        have hsz2 := strL_size D
        have hq9 : q < 16 ^ (f' + 1) := by rw [Nat.pow_succ] at hu; omega
        have HQ := hid hq9
        have hqu : q < u := by omega
        have HN := hid (show (if q < 16 then [] else hexF f' (q / 16)) ++ (hexD e :: D) = hexF 6 k by
          have e1 : (if u < 16 then [] else hexF (f' + 1) (u / 16)) = hexF (f' + 1) q := by rw [if_neg (by omega), hq]
          rw [← hD.out, e1, hexF, ← he]
          split
          · rw [Nat.mod_eq_of_lt (by assumption)]; rfl
          · rw [List.append_assoc]; rfl)
        clear hu hq9 hq he hD
        simp only [List.length_cons, List.length_nil] at hsz1
        go_wp2
        go_round
        case rel => exact ⟨f', q, hexD e :: D, rfl, rfl, HQ.out, by omega, by simp; omega, HN⟩
        case measure => simp [intOf]; omega
      · have hfin := hid (show D = hexF 6 k by rw [← hD.out, if_pos (by omega)]; rfl)
        go_wp2
        go_ret
        exact ⟨by rw [HO.out, ← hfin.out]; rfl, rfl⟩

/-! ### Reading -/
theorem bs_lenH (s : ByteArray) : (bs s).length = s.size := by simp [bs]
theorem bs_getH (s : ByteArray) {k : Nat} (h : k < s.size) : (bs s)[k]? = some s[k] := by
  unfold bs
  rw [List.getElem?_eq_getElem (by simpa using h)]
  simp [ByteArray.getElem_eq_getElem_data]
theorem hexR_none : ∀ (l : List UInt8) (m k : Nat) (c : UInt8), l[k]? = some c → hexV c = none → hexR m l = none
  | [], _, k, c, h, _ => by simp at h
  | x :: r, m, 0, c, h, h' => by simp at h; subst h; simp [hexR, h']
  | x :: r, m, k + 1, c, h, h' => by
    simp only [hexR]
    cases hexV x with
    | none => rfl
    | some d => exact hexR_none r _ k c (by simpa using h) h'
theorem readHex_none {l : List UInt8} (h : 1 ≤ l.length ∧ l.length ≤ 6) (hn : hexR 0 l = none) : readHex l = -1 := by
  unfold readHex
  rw [if_pos h, hn]
theorem readHex_some {l : List UInt8} {n : Nat} (h : 1 ≤ l.length ∧ l.length ≤ 6) (hn : hexR 0 l = some n) : readHex l = if hexT (n : Int) = l then (n : Int) else -1 := by
  unfold readHex
  rw [if_pos h, hn]
theorem readHex_long {l : List UInt8} (h : ¬ (1 ≤ l.length ∧ l.length ≤ 6)) : readHex l = -1 := by
  unfold readHex
  rw [if_neg h]
theorem hexR_succ {l : List UInt8} {k n d : Nat} {c : UInt8} (h : l[k]? = some c) (hn : hexR 0 (l.take k) = some n) (hd : hexV c = some d) : hexR 0 (l.take (k + 1)) = some (16 * n + d) := by
  rw [take_snoc' h]
  exact hexR_append _ _ _ _ _ hn hd
theorem hexV_cases (c : UInt8) : (48 ≤ (c.toNat : Int) ∧ (c.toNat : Int) ≤ 57 ∧ hexV c = some (c.toNat - 48)) ∨ (¬ (48 ≤ (c.toNat : Int) ∧ (c.toNat : Int) ≤ 57) ∧ 97 ≤ (c.toNat : Int) ∧ (c.toNat : Int) ≤ 102 ∧ hexV c = some (c.toNat - 87)) ∨
    (¬ (48 ≤ (c.toNat : Int) ∧ (c.toNat : Int) ≤ 57) ∧ ¬ (97 ≤ (c.toNat : Int) ∧ (c.toNat : Int) ≤ 102) ∧ hexV c = none) := by
  unfold hexV
  by_cases h1 : 48 ≤ c.toNat ∧ c.toNat ≤ 57
  · rw [if_pos h1]; exact .inl ⟨by omega, by omega, rfl⟩
  · rw [if_neg h1]
    by_cases h2 : 97 ≤ c.toNat ∧ c.toNat ≤ 102
    · rw [if_pos h2]; exact .inr (.inl ⟨by omega, by omega, by omega, rfl⟩)
    · rw [if_neg h2]; exact .inr (.inr ⟨by omega, by omega, rfl⟩)

set_option maxHeartbeats 2000000 in
set_option maxRecDepth 100000 in
theorem impl_ReadHex_c (s : ByteArray) (w : World) (hg : Glob w) :
    Calls Tryd.prog 38 #[.string s] w fun e w' => e = .returned (.int .i64 (readHex (bs s))) ∧ Below w.heap.size w w' := by
  by_cases h0 : s.size < 1
  · have HO := hid (show readHex (bs s) = -1 by unfold readHex; rw [if_neg (by rw [bs_lenH]; omega)])
    go_enter Tryd.func38, Tryd.ntmps38
    go_wp2
    go_ret
    exact ⟨ret_i HO.out.symm, Below.refl _ _⟩
  · by_cases h6 : 6 < s.size
    · have HO := hid (show readHex (bs s) = -1 by unfold readHex; rw [if_neg (by rw [bs_lenH]; omega)])
      go_enter Tryd.func38, Tryd.ntmps38
      go_wp2
      go_ret
      exact ⟨ret_i HO.out.symm, Below.refl _ _⟩
    · have HO := hid (show 1 ≤ (bs s).length ∧ (bs s).length ≤ 6 by rw [bs_lenH]; omega)
      go_enter Tryd.func38, Tryd.ntmps38
      go_wp2
      go_loop [3, 4] (fun nv i => ∃ k n : Nat, k ≤ s.size ∧ i = .int .i64 k ∧ nv = .int .i64 n ∧ n < 16 ^ k ∧ n < 16777216 ∧ Hid (hexR 0 ((bs s).take k) = some n)) (fun _ i => s.size - (intOf i).toNat)
      case atStart => exact ⟨0, 0, Nat.zero_le _, rfl, rfl, by simp, by omega, rfl⟩
      case round =>
        obtain ⟨k, n, hk, rfl, rfl, hnk, hn9, hR⟩ := hrel
        by_cases hlt : k < s.size
        · have hx := hid (bs_getH s hlt)
          have hpow : 16 ^ (k + 1) ≤ 16777216 := Nat.le_trans (Nat.pow_le_pow_right (by omega) (show k + 1 ≤ 6 by omega)) (by decide)
          rcases hexV_cases s[k] with ⟨c1, c2, hv⟩ | ⟨c0, c1, c2, hv⟩ | ⟨c0, c1, hv⟩
          · have HR := hid (hexR_succ hx.out hR.out hv)
            have hdg : isDig (s[k].toNat : Int) = true := by simp [isDig, inB]; omega
            have hsub : IntKind.u8.wrap ((s[k].toNat : Int) - 48) = (s[k].toNat : Int) - 48 := by rw [IntKind.wrap_u8]; omega
            have hnn : (n : Int) * 16 + ((s[k].toNat : Int) - 48) = ((16 * n + (s[k].toNat - 48) : Nat) : Int) := by omega
            have hn2 : 16 * n + (s[k].toNat - 48) < 16 ^ (k + 1) := by rw [Nat.pow_succ]; omega
            have HN2 := hid hn2
            have hn3 : 16 * n + (s[k].toNat - 48) < 16777216 := by omega
            clear hv hn2
            go_wp2_with (go_at_call 56; refine (impl_isDigit_c _ _).mono ?_; rw [hdg]; rintro e w' ⟨rfl, rfl⟩)
            go_round
            case rel => exact ⟨k + 1, 16 * n + (s[k].toNat - 48), by omega, by go_num, by go_num, HN2.out, hn3, HR⟩
            case measure => simp [intOf]; omega
          · have HR := hid (hexR_succ hx.out hR.out hv)
            have hdg : isDig (s[k].toNat : Int) = false := by simp [isDig, inB]; omega
            have hsub : IntKind.u8.wrap ((s[k].toNat : Int) - 97) = (s[k].toNat : Int) - 97 := by rw [IntKind.wrap_u8]; omega
            have hn2 : 16 * n + (s[k].toNat - 87) < 16 ^ (k + 1) := by rw [Nat.pow_succ]; omega
            have HN2 := hid hn2
            have hn3 : 16 * n + (s[k].toNat - 87) < 16777216 := by omega
            clear hv hn2
            go_wp2_with (go_at_call 56; refine (impl_isDigit_c _ _).mono ?_; rw [hdg]; rintro e w' ⟨rfl, rfl⟩)
            go_round
            case rel => exact ⟨k + 1, 16 * n + (s[k].toNat - 87), by omega, by go_num, by go_num, HN2.out, hn3, HR⟩
            case measure => simp [intOf]; omega
          · have HF := hid (readHex_none HO.out (hexR_none _ 0 k _ hx.out hv))
            have hdg : isDig (s[k].toNat : Int) = false := by simp [isDig, inB]; omega
            by_cases c2 : 97 ≤ (s[k].toNat : Int)
            · have c3 : ¬ (s[k].toNat : Int) ≤ 102 := fun h => c1 ⟨c2, h⟩
              clear hv c1 c0
              go_wp2_with (go_at_call 56; refine (impl_isDigit_c _ _).mono ?_; rw [hdg]; rintro e w' ⟨rfl, rfl⟩)
              go_ret
              exact ⟨ret_i HF.out.symm, Below.refl _ _⟩
            · clear hv c1 c0
              go_wp2_with (go_at_call 56; refine (impl_isDigit_c _ _).mono ?_; rw [hdg]; rintro e w' ⟨rfl, rfl⟩)
              go_ret
              exact ⟨ret_i HF.out.symm, Below.refl _ _⟩
        · have hR' := hR.out
          rw [take_all (n := s.size) (by simp) (show s.size ≤ k by omega)] at hR'
          have HF := hid (readHex_some HO.out hR')
          clear hR' hR
          go_wp2_with fail
          refine (impl_HexText_c n _ hg).mono ?_
          rintro e w1 ⟨rfl, b1⟩
          have hbq := str_beq s (hexT (n : Int))
          by_cases he : hexT (n : Int) = bs s
          · have HE := hid (HF.out.trans (if_pos he))
            have hb2 : ((strL (hexT (n : Int))).toList == s.toList) = true := by rw [hbq]; exact decide_eq_true he
            clear hbq he
            go_wp2
            go_ret
            exact ⟨ret_i HE.out.symm, b1⟩
          · have HE := hid (HF.out.trans (if_neg he))
            have hb2 : ((strL (hexT (n : Int))).toList == s.toList) = false := by rw [hbq]; exact decide_eq_false he
            clear hbq he
            go_wp2
            go_ret
            exact ⟨ret_i HE.out.symm, b1⟩

set_option maxHeartbeats 2000000 in
set_option maxRecDepth 100000 in
theorem spec_ReadHex_c (s : ByteArray) (w : World) (hs : s.size ≤ 4611686018427387904) :
    Calls Tryd.prog 54 #[.string s] w fun e w' => e = .returned (.int .i64 (readHex (bs s))) ∧ w = w' := by
  by_cases hz : s.size = 0
  · have hsn : s = ⟨#[]⟩ := by
      have := strL_bs s
      rw [List.eq_nil_of_length_eq_zero (l := bs s) (by rw [bs_lenH]; exact hz)] at this
      exact this.symm
    subst hsn
    have HF := hid (readHex_long (l := bs ⟨#[]⟩) (by simp [bs]))
    go_enter Tryd.func54, Tryd.ntmps54
    go_wp2
    refine wp_loop_rounds 1 ?_
    rw [rounds_succ]
    go_wp2
    go_ret
    exact ⟨ret_i HF.out.symm, rfl⟩
  have hne0 : s.toList ≠ [] := by
    rw [ByteArray.toList_eq]
    intro e
    exact hz (by rw [← bs_lenH]; unfold bs; rw [e]; rfl)
  have hne1 : s.toList.isEmpty = false := by cases hl : s.toList with | nil => exact absurd hl hne0 | cons _ _ => rfl
  clear hne0
  go_enter Tryd.func54, Tryd.ntmps54
  go_wp2
  go_loop [3, 4] (fun nv i => ∃ k n : Nat, k ≤ s.size ∧ k ≤ 7 ∧ i = .int .i64 k ∧ nv = .int .i64 n ∧ n < 16 ^ k ∧ n < 268435456 ∧ Hid (hexR 0 ((bs s).take k) = some n)) (fun _ i => s.size - (intOf i).toNat)
  case atStart => exact ⟨0, 0, Nat.zero_le _, Nat.zero_le _, rfl, rfl, by simp, by omega, rfl⟩
  case round =>
    obtain ⟨k, n, hk, hk7, rfl, rfl, hnk, hn9, hR⟩ := hrel
    by_cases hlt : k < s.size
    · by_cases hlt7 : k < 7
      · have hx := hid (bs_getH s hlt)
        have hpow : 16 ^ (k + 1) ≤ 268435456 := Nat.le_trans (Nat.pow_le_pow_right (by omega) (show k + 1 ≤ 7 by omega)) (by decide)
        rcases hexV_cases s[k] with ⟨c1, c2, hv⟩ | ⟨c0, c1, c2, hv⟩ | ⟨c0, c1, hv⟩
        · have HR := hid (hexR_succ hx.out hR.out hv)
          have hsub : IntKind.u8.wrap ((s[k].toNat : Int) - 48) = (s[k].toNat : Int) - 48 := by rw [IntKind.wrap_u8]; omega
          have hn2 : 16 * n + (s[k].toNat - 48) < 16 ^ (k + 1) := by rw [Nat.pow_succ]; omega
          have HN2 := hid hn2
          have hn3 : 16 * n + (s[k].toNat - 48) < 268435456 := by omega
          clear hv hn2
          go_wp2
          go_round
          case rel => exact ⟨k + 1, 16 * n + (s[k].toNat - 48), by omega, by omega, by go_num, by go_num, HN2.out, hn3, HR⟩
          case measure => simp [intOf]; omega
        · have HR := hid (hexR_succ hx.out hR.out hv)
          have hsub : IntKind.u8.wrap ((s[k].toNat : Int) - 97) = (s[k].toNat : Int) - 97 := by rw [IntKind.wrap_u8]; omega
          have hn2 : 16 * n + (s[k].toNat - 87) < 16 ^ (k + 1) := by rw [Nat.pow_succ]; omega
          have HN2 := hid hn2
          have hn3 : 16 * n + (s[k].toNat - 87) < 268435456 := by omega
          have c3 : ¬ (s[k].toNat : Int) ≤ 57 := by omega
          clear hv hn2 c0
          go_wp2
          go_round
          case rel => exact ⟨k + 1, 16 * n + (s[k].toNat - 87), by omega, by omega, by go_num, by go_num, HN2.out, hn3, HR⟩
          case measure => simp [intOf]; omega
        · have HF := hid (show readHex (bs s) = -1 by
            by_cases h6 : 1 ≤ (bs s).length ∧ (bs s).length ≤ 6
            · exact readHex_none h6 (hexR_none _ 0 k _ hx.out hv)
            · exact readHex_long h6)
          by_cases c2 : 97 ≤ (s[k].toNat : Int)
          · have c3 : ¬ (s[k].toNat : Int) ≤ 102 := fun h => c1 ⟨c2, h⟩
            have c4 : ¬ (s[k].toNat : Int) ≤ 57 := by omega
            clear hv c1 c0
            go_wp2
            go_ret
            exact ⟨ret_i HF.out.symm, rfl⟩
          · by_cases c5 : 48 ≤ (s[k].toNat : Int)
            · have c6 : ¬ (s[k].toNat : Int) ≤ 57 := fun h => c0 ⟨c5, h⟩
              clear hv c1 c0
              go_wp2
              go_ret
              exact ⟨ret_i HF.out.symm, rfl⟩
            · clear hv c1 c0
              go_wp2
              go_ret
              exact ⟨ret_i HF.out.symm, rfl⟩
      · -- seven digits: no print has so many
        have hbq := str_beq s (hexT (n : Int))
        have hb2 : ((strL (hexT (n : Int))).toList == s.toList) = false := by
          rw [hbq]
          exact decide_eq_false (fun e => by have h1 := congrArg List.length e; rw [bs_lenH] at h1; have := hexT_len (n : Int); omega)
        have HF := hid (readHex_long (l := bs s) (by rw [bs_lenH]; omega))
        clear hbq
        go_wp2_with fail
        refine (spec_HexText_c n _).mono ?_
        rintro e w1 ⟨rfl, rfl⟩
        go_wp2
        go_ret
        exact ⟨ret_i HF.out.symm, rfl⟩
    · have hR' := hR.out
      rw [take_all (n := s.size) (by simp) (show s.size ≤ k by omega)] at hR'
      have HR := hid hR'
      clear hR' hR
      have hbq := str_beq s (hexT (n : Int))
      by_cases he : hexT (n : Int) = bs s
      · have HF := hid (show readHex (bs s) = n by
          by_cases h6 : 1 ≤ (bs s).length ∧ (bs s).length ≤ 6
          · rw [readHex_some h6 HR.out, if_pos he]
          · exfalso
            have := hexT_len (n : Int)
            rw [he] at this
            have h1 : (bs s).length = 0 := by omega
            rw [bs_lenH] at h1
            exact hz h1)
        have hb2 : ((strL (hexT (n : Int))).toList == s.toList) = true := by rw [hbq]; exact decide_eq_true he
        clear hbq he
        go_wp2_with fail
        refine (spec_HexText_c n _).mono ?_
        rintro e w1 ⟨rfl, rfl⟩
        go_wp2
        go_ret
        exact ⟨ret_i HF.out.symm, rfl⟩
      · have HF := hid (show readHex (bs s) = -1 by
          by_cases h6 : 1 ≤ (bs s).length ∧ (bs s).length ≤ 6
          · rw [readHex_some h6 HR.out, if_neg he]
          · exact readHex_long h6)
        have hb2 : ((strL (hexT (n : Int))).toList == s.toList) = false := by rw [hbq]; exact decide_eq_false he
        clear hbq he
        go_wp2_with fail
        refine (spec_HexText_c n _).mono ?_
        rintro e w1 ⟨rfl, rfl⟩
        go_wp2
        go_ret
        exact ⟨ret_i HF.out.symm, rfl⟩

end Go.Proofs.YtfdhaigmekmboaaDoor

/- A region that draws its order, held by an invariant: of the world, and of each operation what its slot holds. Whatever the order, each operation is looked at once. No program in sight. -/
namespace Go.Proofs.YtfdhaigmekmboaaDoor
open Go.RowKit

theorem exists_least {p : Nat → Prop} (h : ∃ i, p i) : ∃ i, p i ∧ ∀ j, j < i → ¬ p j := by
  obtain ⟨i, hi⟩ := h
  induction i using Nat.strongRecOn with
  | _ i ih =>
    by_cases hex : ∃ j, j < i ∧ p j
    · obtain ⟨j, hj, hp⟩ := hex
      exact ih j hj hp
    · exact ⟨i, hi, fun j hj hp => hex ⟨j, hj, hp⟩⟩

section
variable {P : Program} {ops : Array Oper}

/-- No guard, no defer, and each operation's slot its own. -/
def plainB (ops : Array Oper) : Bool :=
  (List.range ops.size).all fun i => match ops[i]? with
    | some o => o.guard.isNone && (List.range ops.size).all fun j => j == i || (match ops[j]?, o.dst with | some o', some t => o'.dst != some t | _, _ => true)
    | none => true

theorem plainB_spec (h : plainB ops = true) {i : Nat} {o : Oper} (hi : ops[i]? = some o) : o.guard = none ∧ ∀ j o' t, ops[j]? = some o' → j ≠ i → o.dst = some t → o'.dst ≠ some t := by
  have hlt := (Array.getElem?_eq_some_iff.1 hi).1
  have h1 := List.all_eq_true.1 h i (List.mem_range.2 hlt)
  simp only [hi, Bool.and_eq_true, Option.isNone_iff_eq_none] at h1
  refine ⟨h1.1, fun j o' t hj hne ht => ?_⟩
  have hjl := (Array.getElem?_eq_some_iff.1 hj).1
  have h2 := List.all_eq_true.1 h1.2 j (List.mem_range.2 hjl)
  simp only [hj, ht, Bool.or_eq_true, beq_iff_eq, bne_iff_ne] at h2
  exact h2.resolve_left hne

/-- The slot that operation i writes. -/
def slotOf (ops : Array Oper) (i : Nat) (a : Act) : Value := match (ops[i]?).bind (·.dst) with | some t => a.tmps.getD t undef | none => undef
theorem getD_put (a : Act) (t : Tmp) (v : Value) (u : Tmp) (h : t < a.tmps.size) : (a.put (some t) v).tmps.getD u undef = if u = t then v else a.tmps.getD u undef := by
  unfold Act.put
  simp only [Array.getD_eq_getD_getElem?, Array.getElem?_setIfInBounds]
  by_cases hu : u = t
  · subst hu; simp [h]
  · simp [hu, Ne.symm hu]

/-- Slot t is as it was as long as i is not done: whatever writes it is i, or waits for i. -/
def freshB (ops : Array Oper) (i t : Nat) : Bool := (List.range ops.size).all fun j => match ops[j]? with
  | some o => o.dst != some t || j == i || Region.waitsFor .any ops j i
  | none => true
/-- No operation writes slot t. -/
def looseB (ops : Array Oper) (t : Nat) : Bool := ops.all fun o => o.dst != some t
/-- Edges lead back. -/
def backB (ops : Array Oper) : Bool := (List.range ops.size).all fun i => match ops[i]? with
  | some o => o.after.all fun e => !Region.binds .any e || decide (e.on < i)
  | none => true

theorem count_step (listed : Array Bool) (i : Nat) (h : listed.getD i true = false) : (listed.setIfInBounds i true).toList.count false + 1 = listed.toList.count false := by
  have hi : i < listed.size := by
    by_cases hlt : i < listed.size
    · exact hlt
    · rw [Array.getD_eq_getD_getElem?, Array.getElem?_eq_none (by omega)] at h; simp at h
  have hv : listed[i] = false := by
    rw [Array.getD_eq_getD_getElem?, Array.getElem?_eq_getElem hi] at h; simpa using h
  have hm : false ∈ listed.toList := by rw [← hv]; simp
  have hpos := List.count_pos_iff.2 hm
  have hv' : listed.toList[i]'(by simpa using hi) = false := by simpa using hv
  rw [Array.toList_setIfInBounds, List.count_set (by simpa using hi), hv']
  simp only [beq_self_eq_true, if_true, show (true == false) = false from rfl, Bool.false_eq_true, if_false]
  omega

theorem wp_region_inv {id : Nat} {Q : Exit → Act → World → Prop} {a0 : Act} {w0 : World} (hm : P.follows .mixedOrders = true) (hp : plainB ops = true) (hback : backB ops = true)
    (hdst : (ops.all fun o => match o.dst with | some t => decide (t < a0.tmps.size) | none => true) = true)
    (J : Nat → World → Prop) (S : World → World → Prop) (F : Nat → Value → World → Prop) (hJ : J 0 w0.drew) (hF : ∀ i v w w', S w w' → F i v w → F i v w')
    (hop : ∀ (i : Nat) (o : Oper), ops[i]? = some o → ∀ (n : Nat) (a : Act) (w : World), n < ops.size → J n w →
      (∀ t, freshB ops i t = true → a.tmps.getD t undef = a0.tmps.getD t undef) →
      (∀ e ∈ o.after, Region.binds .any e = true → F e.on (slotOf ops e.on a) w) →
      o.wp P a w (fun a' w' => ∃ v, a' = a.put o.dst v ∧ J (n + 1) w' ∧ S w w' ∧ F i (if o.dst.isSome then v else undef) w') Q)
    (hend : ∀ (a : Act) (w : World), J ops.size w → a.tmps.size = a0.tmps.size → a.defers = a0.defers → (∀ t, looseB ops t = true → a.tmps.getD t undef = a0.tmps.getD t undef) → (∀ (i : Nat) (o : Oper), ops[i]? = some o → F i (slotOf ops i a) w) → Q .normal a w) :
    (Code.region id ops true).wp P Q a0 w0 := by
  refine wp_region_any hm ?_
  have hdst' : ∀ (i : Nat) (o : Oper) (t : Tmp), ops[i]? = some o → o.dst = some t → t < a0.tmps.size := by
    intro i o t hi ht
    have hlt := (Array.getElem?_eq_some_iff.1 hi)
    obtain ⟨hlt, he⟩ := hlt
    have h1 := Array.all_eq_true.1 hdst i hlt
    rw [he, ht] at h1
    exact of_decide_eq_true h1
  have hback' : ∀ (i : Nat) (o : Oper), ops[i]? = some o → ∀ e ∈ o.after, Region.binds .any e = true → e.on < i := by
    intro i o hi e he hbe
    have h1 := List.all_eq_true.1 hback i (List.mem_range.2 (Array.getElem?_eq_some_iff.1 hi).1)
    simp only [hi] at h1
    obtain ⟨k, hk, hke⟩ := Array.getElem_of_mem he
    have h2 := Array.all_eq_true.1 h1 k hk
    rw [hke, hbe] at h2
    exact of_decide_eq_true (by simpa using h2)
  suffices H : ∀ (f n : Nat) (listed : Array Bool) (a : Act) (w : World), listed.size = ops.size → listed.toList.count false = f → n + f = ops.size → J n w → a.tmps.size = a0.tmps.size → a.defers = a0.defers →
      (∀ j o, ops[j]? = some o → listed.getD j false = true → ∀ e ∈ o.after, Region.binds .any e = true → listed.getD e.on false = true) →
      (∀ t, (∀ (i : Nat) (o : Oper), ops[i]? = some o → listed.getD i false = true → o.dst ≠ some t) → a.tmps.getD t undef = a0.tmps.getD t undef) →
      (∀ (i : Nat) (o : Oper), ops[i]? = some o → listed.getD i false = true → F i (slotOf ops i a) w) → wpAny P .any ops Q f listed a w by
    refine H _ 0 _ _ _ (by simp) (by simp) (by simp) hJ rfl rfl ?_ ?_ ?_
    · intro j o _ h; rw [getD_replicate_false] at h; cases h
    · intro t _; rfl
    · intro i o _ h; rw [getD_replicate_false] at h; cases h
  intro f
  induction f with
  | zero =>
    intro n listed a w hs hc hnf hj hsz hdf _ hsame hhold
    obtain rfl : n = ops.size := by omega
    have hall : ∀ i, i < ops.size → listed.getD i false = true := by
      intro i hi
      have hnot : false ∉ listed.toList := List.count_eq_zero.1 hc
      rw [Array.getD_eq_getD_getElem?, Array.getElem?_eq_getElem (by omega)]
      simp only [Option.getD_some]
      cases hv : listed[i]'(by omega) with
      | true => rfl
      | false => exact absurd (by rw [← hv]; simp) hnot
    refine ⟨?_, hend a w hj hsz hdf (fun t ht => hsame t fun i o hi _ => ?_) (fun i o hi => hhold i o hi (hall i (Array.getElem?_eq_some_iff.1 hi).1))⟩
    · rw [List.eq_nil_iff_forall_not_mem]
      intro i hi
      obtain ⟨h1, o, ho, _⟩ := mem_ready.1 hi
      have h2 := hall i (Array.getElem?_eq_some_iff.1 ho).1
      rw [Array.getD_eq_getD_getElem?, Array.getElem?_eq_getElem (by have := (Array.getElem?_eq_some_iff.1 ho).1; omega)] at h1 h2
      simp only [Option.getD_some] at h1 h2
      rw [h1] at h2; cases h2
    · have hl := Array.all_eq_true.1 ht i (Array.getElem?_eq_some_iff.1 hi).1
      rw [(Array.getElem?_eq_some_iff.1 hi).2] at hl
      simpa using hl
  | succ f ih =>
    intro n listed a w hs hc hnf hj hsz hdf hcl hsame hhold
    refine ⟨fun h0 => ?_, fun i hi => ?_⟩
    · exfalso
      have hmem : false ∈ listed.toList := List.count_pos_iff.1 (by omega)
      have hex : ∃ i, i < ops.size ∧ listed.getD i true = false := by
        obtain ⟨k, hk, hke⟩ := List.getElem_of_mem hmem
        refine ⟨k, by simpa [hs] using hk, ?_⟩
        rw [Array.getD_eq_getD_getElem?, Array.getElem?_eq_getElem (by simpa using hk)]
        simpa using hke
      obtain ⟨i, ⟨hi, hf⟩, hmin⟩ := exists_least hex
      have hr : i ∈ Region.ready .any ops listed := mem_ready.2 ⟨hf, ops[i], Array.getElem?_eq_getElem hi, fun e he hbe => by
        have hlt := hback' i _ (Array.getElem?_eq_getElem hi) e he hbe
        have := hmin e.on hlt
        rw [Array.getD_eq_getD_getElem?, Array.getElem?_eq_getElem (by omega)] at this ⊢
        simp only [Option.getD_some] at this ⊢
        cases hv : listed[e.on]'(by omega) with
        | true => rfl
        | false => exact absurd ⟨by omega, hv⟩ this⟩
      rw [h0] at hr; cases hr
    · obtain ⟨hun, o, ho, hdeps⟩ := mem_ready.1 hi
      have hil : i < listed.size := by rw [hs]; exact (Array.getElem?_eq_some_iff.1 ho).1
      have hunf : listed.getD i false = false := by
        rw [Array.getD_eq_getD_getElem?, Array.getElem?_eq_getElem hil] at hun ⊢
        simpa using hun
      obtain ⟨hgu, hslot⟩ := plainB_spec hp ho
      unfold wpOp
      simp only [ho]
      rw [if_pos (by simp [Region.wanted, hgu])]
      refine .inl (Oper.wp_mono ?_ (hop i o ho n a w (by omega) hj (fun t ht => hsame t fun j o' hj' hl => ?_) (fun e he hbe => ?_)))
      · rintro a' w' ⟨v, rfl, hj', hS, hF'⟩
        have hother : ∀ j o', ops[j]? = some o' → j ≠ i → slotOf ops j (a.put o.dst v) = slotOf ops j a := by
          intro j o' hj2 hne
          unfold slotOf
          rw [hj2]
          cases ht : o'.dst with
          | none => simp [ht]
          | some t =>
            simp only [Option.bind_some, ht]
            cases hd : o.dst with
            | none => simp [Act.put]
            | some u =>
              rw [getD_put _ _ _ _ (by rw [hsz]; exact hdst' i o u ho hd), if_neg]
              rintro rfl
              exact hslot j o' _ hj2 hne hd ht
        have hget : ∀ j, (listed.setIfInBounds i true).getD j false = true → j = i ∨ listed.getD j false = true := by
          intro j hjl
          by_cases hji : j = i
          · exact .inl hji
          · right
            rw [Array.getD_eq_getD_getElem?, Array.getElem?_setIfInBounds_ne (Ne.symm hji)] at hjl
            rw [Array.getD_eq_getD_getElem?]; exact hjl
        have hget' : ∀ j, listed.getD j false = true → (listed.setIfInBounds i true).getD j false = true := by
          intro j hjl
          by_cases hji : j = i
          · rw [hji] at hjl; rw [hunf] at hjl; cases hjl
          · rw [Array.getD_eq_getD_getElem?, Array.getElem?_setIfInBounds_ne (Ne.symm hji)]
            rw [Array.getD_eq_getD_getElem?] at hjl; exact hjl
        refine ih (n + 1) _ _ _ (by simpa using hs) (by have := count_step listed i hun; omega) (by omega) hj' ?_ ?_ ?_ ?_ ?_
        · unfold Act.put; cases o.dst <;> simp [hsz]
        · unfold Act.put; cases o.dst <;> simp [hdf]
        · intro j oj hoj hl e he hbe
          rcases hget j hl with rfl | hl
          · obtain rfl : oj = o := Option.some.inj (hoj.symm.trans ho)
            exact hget' _ (hdeps e he hbe)
          · exact hget' _ (hcl j oj hoj hl e he hbe)
        · intro t ht
          have hne : o.dst ≠ some t := ht i o ho (by rw [Array.getD_eq_getD_getElem?, Array.getElem?_setIfInBounds_self_of_lt hil]; rfl)
          rw [← hsame t (fun j oj hoj hl => ht j oj hoj (hget' j hl))]
          cases hd : o.dst with
          | none => simp [Act.put]
          | some u =>
            rw [getD_put _ _ _ _ (by rw [hsz]; exact hdst' i o u ho hd), if_neg]
            rintro rfl
            exact hne hd
        · intro j oj hoj hl
          by_cases hji : j = i
          · subst hji
            obtain rfl : oj = o := Option.some.inj (hoj.symm.trans ho)
            have : slotOf ops j (a.put oj.dst v) = if oj.dst.isSome then v else undef := by
              unfold slotOf
              rw [hoj]
              cases hd : oj.dst with
              | none => simp [hd]
              | some u =>
                simp only [Option.bind_some, hd]
                rw [getD_put _ _ _ _ (by rw [hsz]; exact hdst' j oj u hoj hd)]
                simp
            rw [this]; exact hF'
          · rw [hother j oj hoj hji]
            rcases hget j hl with h | hl
            · exact absurd h hji
            · exact hF j _ w w' hS (hhold j oj hoj hl)
      · have h1 := List.all_eq_true.1 ht j (List.mem_range.2 (Array.getElem?_eq_some_iff.1 hj').1)
        simp only [hj', Bool.or_eq_true, bne_iff_ne, beq_iff_eq] at h1
        rcases h1 with (h1 | h1) | h1
        · exact h1
        · subst h1; rw [hunf] at hl; cases hl
        · obtain ⟨o2, ho2, x, hx, hxb, hon⟩ := Region.waitsFor_spec h1
          obtain rfl : o2 = o' := Option.some.inj (ho2.symm.trans hj')
          have := hcl j o2 hj' hl x hx hxb
          rw [hon, hunf] at this; cases this
      · have hd := hdeps e he hbe
        have hlt := hback' i o ho e he hbe
        exact hhold e.on ops[e.on] (Array.getElem?_eq_getElem (by have := (Array.getElem?_eq_some_iff.1 ho).1; omega)) hd
end
end Go.Proofs.YtfdhaigmekmboaaDoor

/- A region that draws its order, held by an invariant, in which a write's fact may name the slot of its pointer. No program in sight. -/
namespace Go.Proofs.YtfdhaigmekmboaaDoor
open Go.RowKit

/-- The slot that holds a write's pointer. -/
def storePtr (o : Oper) : Option Tmp := match o.op with | .store _ (.tmp t) _ => some t | _ => none
def refOf (o : Oper) : Option Tmp := match o.dst with | some t => some t | none => storePtr o
section
variable {P : Program} {ops : Array Oper}
/-- The slot that operation i writes, or that holds its pointer. -/
def slotOf2 (ops : Array Oper) (i : Nat) (a : Act) : Value := match (ops[i]?).bind refOf with | some t => a.tmps.getD t undef | none => undef
/-- A write waits for its pointer. -/
def ptrB (ops : Array Oper) : Bool := (List.range ops.size).all fun i => match ops[i]? with
  | some o => (match o.dst, storePtr o with
    | none, some t => (ops.all fun o' => o'.dst != some t) || o.after.any fun e => Region.binds .any e && (match ops[e.on]? with | some o' => o'.dst == some t | none => false)
    | _, _ => true)
  | none => true
theorem ptrB_spec (h : ptrB ops = true) {i : Nat} {o : Oper} {t : Tmp} (hi : ops[i]? = some o) (hd : o.dst = none) (hp : storePtr o = some t) :
    (∀ (j : Nat) (o' : Oper), ops[j]? = some o' → o'.dst ≠ some t) ∨ ∃ e ∈ o.after, Region.binds .any e = true ∧ ∃ o', ops[e.on]? = some o' ∧ o'.dst = some t := by
  have h1 := List.all_eq_true.1 h i (List.mem_range.2 (Array.getElem?_eq_some_iff.1 hi).1)
  simp only [hi, hd, hp, Bool.or_eq_true] at h1
  rcases h1 with h1 | h1
  · left
    intro j o' hj
    obtain ⟨hlt, he⟩ := Array.getElem?_eq_some_iff.1 hj
    have := Array.all_eq_true.1 h1 j hlt
    rw [he] at this
    simpa using this
  · right
    obtain ⟨k, hk, hke⟩ := Array.any_eq_true.1 h1
    simp only [Bool.and_eq_true] at hke
    refine ⟨o.after[k], Array.getElem_mem hk, hke.1, ?_⟩
    have h2 := hke.2
    cases ho : ops[(o.after[k]).on]? with
    | none => rw [ho] at h2; simp at h2
    | some o' => rw [ho] at h2; exact ⟨o', rfl, by simpa using h2⟩

theorem wp_region_inv2 {id : Nat} {Q : Exit → Act → World → Prop} {a0 : Act} {w0 : World} (hm : P.follows .mixedOrders = true) (hp : plainB ops = true) (hback : backB ops = true) (hptr : ptrB ops = true)
    (hdst : (ops.all fun o => match o.dst with | some t => decide (t < a0.tmps.size) | none => true) = true)
    (J : Nat → World → Prop) (S : World → World → Prop) (F : Nat → Value → World → Prop) (hJ : J 0 w0.drew) (hF : ∀ i v w w', S w w' → F i v w → F i v w')
    (hop : ∀ (i : Nat) (o : Oper), ops[i]? = some o → ∀ (n : Nat) (a : Act) (w : World), n < ops.size → J n w →
      (∀ t, freshB ops i t = true → a.tmps.getD t undef = a0.tmps.getD t undef) →
      (∀ e ∈ o.after, Region.binds .any e = true → F e.on (slotOf2 ops e.on a) w) →
      o.wp P a w (fun a' w' => ∃ v, a' = a.put o.dst v ∧ J (n + 1) w' ∧ S w w' ∧ F i (if o.dst.isSome then v else slotOf2 ops i a) w') Q)
    (hend : ∀ (a : Act) (w : World), J ops.size w → a.tmps.size = a0.tmps.size → a.defers = a0.defers → (∀ t, looseB ops t = true → a.tmps.getD t undef = a0.tmps.getD t undef) → (∀ (i : Nat) (o : Oper), ops[i]? = some o → F i (slotOf2 ops i a) w) → Q .normal a w) :
    (Code.region id ops true).wp P Q a0 w0 := by
  refine wp_region_any hm ?_
  have hdst' : ∀ (i : Nat) (o : Oper) (t : Tmp), ops[i]? = some o → o.dst = some t → t < a0.tmps.size := by
    intro i o t hi ht
    have hlt := (Array.getElem?_eq_some_iff.1 hi)
    obtain ⟨hlt, he⟩ := hlt
    have h1 := Array.all_eq_true.1 hdst i hlt
    rw [he, ht] at h1
    exact of_decide_eq_true h1
  have hback' : ∀ (i : Nat) (o : Oper), ops[i]? = some o → ∀ e ∈ o.after, Region.binds .any e = true → e.on < i := by
    intro i o hi e he hbe
    have h1 := List.all_eq_true.1 hback i (List.mem_range.2 (Array.getElem?_eq_some_iff.1 hi).1)
    simp only [hi] at h1
    obtain ⟨k, hk, hke⟩ := Array.getElem_of_mem he
    have h2 := Array.all_eq_true.1 h1 k hk
    rw [hke, hbe] at h2
    exact of_decide_eq_true (by simpa using h2)
  suffices H : ∀ (f n : Nat) (listed : Array Bool) (a : Act) (w : World), listed.size = ops.size → listed.toList.count false = f → n + f = ops.size → J n w → a.tmps.size = a0.tmps.size → a.defers = a0.defers →
      (∀ j o, ops[j]? = some o → listed.getD j false = true → ∀ e ∈ o.after, Region.binds .any e = true → listed.getD e.on false = true) →
      (∀ t, (∀ (i : Nat) (o : Oper), ops[i]? = some o → listed.getD i false = true → o.dst ≠ some t) → a.tmps.getD t undef = a0.tmps.getD t undef) →
      (∀ (i : Nat) (o : Oper), ops[i]? = some o → listed.getD i false = true → F i (slotOf2 ops i a) w) → wpAny P .any ops Q f listed a w by
    refine H _ 0 _ _ _ (by simp) (by simp) (by simp) hJ rfl rfl ?_ ?_ ?_
    · intro j o _ h; rw [getD_replicate_false] at h; cases h
    · intro t _; rfl
    · intro i o _ h; rw [getD_replicate_false] at h; cases h
  intro f
  induction f with
  | zero =>
    intro n listed a w hs hc hnf hj hsz hdf _ hsame hhold
    obtain rfl : n = ops.size := by omega
    have hall : ∀ i, i < ops.size → listed.getD i false = true := by
      intro i hi
      have hnot : false ∉ listed.toList := List.count_eq_zero.1 hc
      rw [Array.getD_eq_getD_getElem?, Array.getElem?_eq_getElem (by omega)]
      simp only [Option.getD_some]
      cases hv : listed[i]'(by omega) with
      | true => rfl
      | false => exact absurd (by rw [← hv]; simp) hnot
    refine ⟨?_, hend a w hj hsz hdf (fun t ht => hsame t fun i o hi _ => ?_) (fun i o hi => hhold i o hi (hall i (Array.getElem?_eq_some_iff.1 hi).1))⟩
    · rw [List.eq_nil_iff_forall_not_mem]
      intro i hi
      obtain ⟨h1, o, ho, _⟩ := mem_ready.1 hi
      have h2 := hall i (Array.getElem?_eq_some_iff.1 ho).1
      rw [Array.getD_eq_getD_getElem?, Array.getElem?_eq_getElem (by have := (Array.getElem?_eq_some_iff.1 ho).1; omega)] at h1 h2
      simp only [Option.getD_some] at h1 h2
      rw [h1] at h2; cases h2
    · have hl := Array.all_eq_true.1 ht i (Array.getElem?_eq_some_iff.1 hi).1
      rw [(Array.getElem?_eq_some_iff.1 hi).2] at hl
      simpa using hl
  | succ f ih =>
    intro n listed a w hs hc hnf hj hsz hdf hcl hsame hhold
    refine ⟨fun h0 => ?_, fun i hi => ?_⟩
    · exfalso
      have hmem : false ∈ listed.toList := List.count_pos_iff.1 (by omega)
      have hex : ∃ i, i < ops.size ∧ listed.getD i true = false := by
        obtain ⟨k, hk, hke⟩ := List.getElem_of_mem hmem
        refine ⟨k, by simpa [hs] using hk, ?_⟩
        rw [Array.getD_eq_getD_getElem?, Array.getElem?_eq_getElem (by simpa using hk)]
        simpa using hke
      obtain ⟨i, ⟨hi, hf⟩, hmin⟩ := exists_least hex
      have hr : i ∈ Region.ready .any ops listed := mem_ready.2 ⟨hf, ops[i], Array.getElem?_eq_getElem hi, fun e he hbe => by
        have hlt := hback' i _ (Array.getElem?_eq_getElem hi) e he hbe
        have := hmin e.on hlt
        rw [Array.getD_eq_getD_getElem?, Array.getElem?_eq_getElem (by omega)] at this ⊢
        simp only [Option.getD_some] at this ⊢
        cases hv : listed[e.on]'(by omega) with
        | true => rfl
        | false => exact absurd ⟨by omega, hv⟩ this⟩
      rw [h0] at hr; cases hr
    · obtain ⟨hun, o, ho, hdeps⟩ := mem_ready.1 hi
      have hil : i < listed.size := by rw [hs]; exact (Array.getElem?_eq_some_iff.1 ho).1
      have hunf : listed.getD i false = false := by
        rw [Array.getD_eq_getD_getElem?, Array.getElem?_eq_getElem hil] at hun ⊢
        simpa using hun
      obtain ⟨hgu, hslot⟩ := plainB_spec hp ho
      unfold wpOp
      simp only [ho]
      rw [if_pos (by simp [Region.wanted, hgu])]
      refine .inl (Oper.wp_mono ?_ (hop i o ho n a w (by omega) hj (fun t ht => hsame t fun j o' hj' hl => ?_) (fun e he hbe => ?_)))
      · rintro a' w' ⟨v, rfl, hj', hS, hF'⟩
        have hother : ∀ j o', ops[j]? = some o' → j ≠ i → listed.getD j false = true → slotOf2 ops j (a.put o.dst v) = slotOf2 ops j a := by
          intro j o' hj2 hne hl
          unfold slotOf2
          rw [hj2]
          simp only [Option.bind_some]
          cases ht : refOf o' with
          | none => simp
          | some t =>
            simp only
            cases hd : o.dst with
            | none => simp [Act.put]
            | some u =>
              rw [getD_put _ _ _ _ (by rw [hsz]; exact hdst' i o u ho hd), if_neg]
              rintro rfl
              cases hod : o'.dst with
              | some t' =>
                simp only [refOf, hod, Option.some.injEq] at ht
                subst ht
                exact hslot j o' _ hj2 hne hd hod
              | none =>
                simp only [refOf, hod] at ht
                rcases ptrB_spec hptr hj2 hod ht with hall | ⟨e, he, hbe, o2, ho2, hd2⟩
                · exact hall i o ho hd
                · have hle := hcl j o' hj2 hl e he hbe
                  have hei : e.on ≠ i := by rintro h; rw [h, hunf] at hle; cases hle
                  exact hslot e.on o2 _ ho2 hei hd hd2
        have hget : ∀ j, (listed.setIfInBounds i true).getD j false = true → j = i ∨ listed.getD j false = true := by
          intro j hjl
          by_cases hji : j = i
          · exact .inl hji
          · right
            rw [Array.getD_eq_getD_getElem?, Array.getElem?_setIfInBounds_ne (Ne.symm hji)] at hjl
            rw [Array.getD_eq_getD_getElem?]; exact hjl
        have hget' : ∀ j, listed.getD j false = true → (listed.setIfInBounds i true).getD j false = true := by
          intro j hjl
          by_cases hji : j = i
          · rw [hji] at hjl; rw [hunf] at hjl; cases hjl
          · rw [Array.getD_eq_getD_getElem?, Array.getElem?_setIfInBounds_ne (Ne.symm hji)]
            rw [Array.getD_eq_getD_getElem?] at hjl; exact hjl
        refine ih (n + 1) _ _ _ (by simpa using hs) (by have := count_step listed i hun; omega) (by omega) hj' ?_ ?_ ?_ ?_ ?_
        · unfold Act.put; cases o.dst <;> simp [hsz]
        · unfold Act.put; cases o.dst <;> simp [hdf]
        · intro j oj hoj hl e he hbe
          rcases hget j hl with rfl | hl
          · obtain rfl : oj = o := Option.some.inj (hoj.symm.trans ho)
            exact hget' _ (hdeps e he hbe)
          · exact hget' _ (hcl j oj hoj hl e he hbe)
        · intro t ht
          have hne : o.dst ≠ some t := ht i o ho (by rw [Array.getD_eq_getD_getElem?, Array.getElem?_setIfInBounds_self_of_lt hil]; rfl)
          rw [← hsame t (fun j oj hoj hl => ht j oj hoj (hget' j hl))]
          cases hd : o.dst with
          | none => simp [Act.put]
          | some u =>
            rw [getD_put _ _ _ _ (by rw [hsz]; exact hdst' i o u ho hd), if_neg]
            rintro rfl
            exact hne hd
        · intro j oj hoj hl
          by_cases hji : j = i
          · subst hji
            obtain rfl : oj = o := Option.some.inj (hoj.symm.trans ho)
            have : slotOf2 ops j (a.put oj.dst v) = if oj.dst.isSome then v else slotOf2 ops j a := by
              cases hd : oj.dst with
              | none => simp [Act.put]
              | some u =>
                unfold slotOf2
                rw [hoj]
                simp only [Option.bind_some, refOf, hd]
                rw [getD_put _ _ _ _ (by rw [hsz]; exact hdst' j oj u hoj hd)]
                simp
            rw [this]; exact hF'
          · rcases hget j hl with h | hl
            · exact absurd h hji
            · rw [hother j oj hoj hji hl]
              exact hF j _ w w' hS (hhold j oj hoj hl)
      · have h1 := List.all_eq_true.1 ht j (List.mem_range.2 (Array.getElem?_eq_some_iff.1 hj').1)
        simp only [hj', Bool.or_eq_true, bne_iff_ne, beq_iff_eq] at h1
        rcases h1 with (h1 | h1) | h1
        · exact h1
        · subst h1; rw [hunf] at hl; cases hl
        · obtain ⟨o2, ho2, x, hx, hxb, hon⟩ := Region.waitsFor_spec h1
          obtain rfl : o2 = o' := Option.some.inj (ho2.symm.trans hj')
          have := hcl j o2 hj' hl x hx hxb
          rw [hon, hunf] at this; cases this
      · have hd := hdeps e he hbe
        have hlt := hback' i o ho e he hbe
        exact hhold e.on ops[e.on] (Array.getElem?_eq_getElem (by have := (Array.getElem?_eq_some_iff.1 ho).1; omega)) hd

/-- The frame with the slots that a region writes taken from tm. -/
def refillL (l : List Oper) (a tm : Array Value) : Array Value := match l with
  | [] => a
  | o :: r => refillL r (match o.dst with | some t => a.setIfInBounds t (tm.getD t undef) | none => a) tm
theorem refillL_size : ∀ (l : List Oper) (a tm : Array Value), (refillL l a tm).size = a.size
  | [], a, tm => rfl
  | o :: r, a, tm => by
    unfold refillL
    rw [refillL_size r]
    cases o.dst <;> simp
theorem refillL_get : ∀ (l : List Oper) (a tm : Array Value) (t : Nat), t < a.size → (refillL l a tm).getD t undef = if (l.any fun o => o.dst == some t) then tm.getD t undef else a.getD t undef
  | [], a, tm, t, _ => by simp [refillL]
  | o :: r, a, tm, t, ht => by
    unfold refillL
    cases hd : o.dst with
    | none =>
      simp only [List.any_cons, hd]
      rw [refillL_get r a tm t ht]
      simp
    | some u =>
      simp only [List.any_cons, hd]
      rw [refillL_get r _ tm t (by simpa using ht)]
      by_cases hu : u = t
      · subst hu
        simp only [beq_self_eq_true, Bool.true_or, if_true]
        split
        · rfl
        · simp [Array.getD_eq_getD_getElem?, ht]
      · have : (some u == some t) = false := by simp [hu]
        rw [this, Bool.false_or]
        have e2 : (a.setIfInBounds u (tm.getD u undef)).getD t undef = a.getD t undef := by rw [Array.getD_eq_getD_getElem?, Array.getD_eq_getD_getElem?, Array.getElem?_setIfInBounds, if_neg hu, ← Array.getD_eq_getD_getElem?]
        rw [e2]
theorem refill_eq {a0 tm : Array Value} (hs : tm.size = a0.size) (hb : ∀ t, looseB ops t = true → tm.getD t undef = a0.getD t undef) : tm = refillL ops.toList a0 tm := by
  have h : ∀ t, t < tm.size → tm.getD t undef = (refillL ops.toList a0 tm).getD t undef := by
    intro t ht
    rw [refillL_get _ _ _ _ (by omega)]
    by_cases hn : (ops.toList.any fun o => o.dst == some t) = true
    · rw [if_pos hn]
    · rw [if_neg hn]
      refine hb t ?_
      rw [looseB, Array.all_eq_true]
      intro i hi
      cases hc : (ops[i].dst == some t)
      · simpa using hc
      · exact absurd (List.any_eq_true.2 ⟨ops[i], Array.mem_toList_iff.2 (Array.getElem_mem hi), hc⟩) hn
  refine Array.ext (by rw [refillL_size, hs]) fun i h1 h2 => ?_
  have := h i h1
  simpa [Array.getD_eq_getD_getElem?, h1, h2] using this

theorem wp_region_inv3 {id : Nat} {Q : Exit → Act → World → Prop} {a0 : Act} {w0 : World} (hm : P.follows .mixedOrders = true) (hp : plainB ops = true) (hback : backB ops = true) (hptr : ptrB ops = true)
    (hdst : (ops.all fun o => match o.dst with | some t => decide (t < a0.tmps.size) | none => true) = true)
    (J : Nat → World → Prop) (S : World → World → Prop) (F : Nat → Value → World → Prop) (hJ : J 0 w0.drew) (hF : ∀ i v w w', S w w' → F i v w → F i v w')
    (hop : ∀ (i : Nat) (o : Oper), ops[i]? = some o → ∀ (n : Nat) (a : Act) (w : World), n < ops.size → J n w →
      (∀ t, freshB ops i t = true → a.tmps.getD t undef = a0.tmps.getD t undef) →
      (∀ e ∈ o.after, Region.binds .any e = true → F e.on (slotOf2 ops e.on a) w) →
      o.wp P a w (fun a' w' => ∃ v, a' = a.put o.dst v ∧ J (n + 1) w' ∧ S w w' ∧ F i (if o.dst.isSome then v else slotOf2 ops i a) w') Q)
    (hend : ∀ (tm : Array Value) (w : World), J ops.size w → (∀ (i : Nat) (o : Oper), ops[i]? = some o → F i (slotOf2 ops i ⟨tm, a0.defers⟩) w) → Q .normal ⟨refillL ops.toList a0.tmps tm, a0.defers⟩ w) :
    (Code.region id ops true).wp P Q a0 w0 := by
  refine wp_region_inv2 hm hp hback hptr hdst J S F hJ hF hop ?_
  rintro ⟨tm, df⟩ w hj hsz hdf hb hFF
  obtain rfl : df = a0.defers := hdf
  have e := refill_eq hsz hb
  have := hend tm w hj hFF
  rw [← e] at this
  exact this

end
end Go.Proofs.YtfdhaigmekmboaaDoor

/- The facts that a region's slots hold beside a reader; one operation's step. -/
namespace Go.Proofs.YtfdhaigmekmboaaDoor
open Go.RowKit

section
variable {P : Program} {o : Oper} {a : Act} {w w' : World} {K : Act → World → Prop} {Q : Exit → Act → World → Prop} {v : Value}
theorem ev_get {a : Act} {t : Tmp} {v : Value} (h : a.eval (.tmp t) = v) : a.tmps[t]?.getD undef = v := by
  rw [← h]; simp [Act.eval]
theorem iv_val (hr : (execOp a.eval o).run P w = .ok (.value v) w') (h : K (a.put o.dst v) w') : o.wp P a w K Q := by
  unfold Oper.wp; rw [hr]; exact h
theorem iv_enter {f : FuncId} {args : Array Value} (hr : (execOp a.eval o).run P w = .ok (.enter f args) w) (h : Calls P f args w fun e w' => ∃ r, e = .returned r ∧ K (a.put o.dst r) w') : o.wp P a w K Q := by
  unfold Oper.wp; rw [hr]
  refine h.mono ?_
  rintro e w2 ⟨r, rfl, hk⟩
  exact hk
end

/-- The reader has been asked at most n times more, and nothing else was written. -/
def RJ (w0 : World) (g : Nat) (l : List Int) (p n : Nat) (w : World) : Prop := ∃ p', p' ≤ p + n ∧ Reader w g l p' ∧ w0.grownBy w (some g)
theorem RJ.step {w0 w w' : World} {g p n : Nat} {l : List Int} (h : RJ w0 g l p n w) (hw : w = w') : RJ w0 g l p (n + 1) w' := by
  obtain ⟨p', h1, h2, h3⟩ := h
  subst hw
  exact ⟨p', by omega, h2, h3⟩
theorem RJ.alloc {w0 w : World} {g p n : Nat} {l : List Int} (h : RJ w0 g l p n w) (o : Obj) : RJ w0 g l p (n + 1) (w.alloc o) := by
  obtain ⟨p', h1, h2, h3⟩ := h
  exact ⟨p', by omega, h2.alloc o, gb_alloc h3 o⟩

theorem RJ.ne {w0 w : World} {g p n : Nat} {l : List Int} (h : RJ w0 g l p n w) : w.heap.size ≠ g := by
  obtain ⟨p', _, h2, _⟩ := h
  have := h2.lt
  omega

def Stable (g : Nat) (f : Value → World → Prop) : Prop := ∀ v w w', w.grownBy w' (some g) → f v w → f v w'
def isV (u : Value) : Value → World → Prop := fun v _ => v = u
def isT (B : Nat) : Value → World → Prop := fun v _ => ∃ s : ByteArray, v = .string s ∧ s.size ≤ B
def isI (lo hi : Int) : Value → World → Prop := fun v _ => ∃ x : Int, v = .int .i64 x ∧ lo ≤ x ∧ x ≤ hi
def isRow (g : Nat) (cs : Array Value) (t : TypeId) (n : Nat) : Value → World → Prop := fun v w => ∃ b, v = .slice (some ⟨b, 0, none⟩) n n ∧ b ≠ g ∧ w.heap[b]? = some (.cells cs t (0, 0))
def isAt (g : Nat) (R : Value → World → Prop) : Value → World → Prop := fun v w => ∃ b i u, v = .pointer (some ⟨b, i, none⟩) ∧ b ≠ g ∧ w.cell? ⟨b, i, none⟩ = some u ∧ R u w
theorem isV_st (g : Nat) (u : Value) : Stable g (isV u) := fun _ _ _ _ h => h
theorem isT_st (g B : Nat) : Stable g (isT B) := fun _ _ _ _ h => h
theorem isI_st (g : Nat) (lo hi : Int) : Stable g (isI lo hi) := fun _ _ _ _ h => h
theorem isRow_st (g : Nat) (cs : Array Value) (t : TypeId) (n : Nat) : Stable g (isRow g cs t n) := by
  rintro v w w' hg ⟨b, hv, hb, hh⟩
  exact ⟨b, hv, hb, (hg.block b (Array.getElem?_eq_some_iff.1 hh).1 (some_ne hb)).trans hh⟩
theorem cell_far {w w' : World} {g b i : Nat} {u : Value} (hg : w.grownBy w' (some g)) (hb : b ≠ g) (h : w.cell? ⟨b, i, none⟩ = some u) : w'.cell? ⟨b, i, none⟩ = some u := by
  unfold World.cell? at h ⊢
  cases hh : w.heap[b]? with
  | none => simp [hh] at h
  | some o =>
    have hlt := (Array.getElem?_eq_some_iff.1 hh).1
    have := (hg.block b hlt (some_ne hb)).trans hh
    simp only [hh] at h
    simp only [this]
    exact h
theorem isAt_st (g : Nat) (R : Value → World → Prop) (hR : Stable g R) : Stable g (isAt g R) := by
  rintro v w w' hg ⟨b, i, u, hv, hb, hc, hr⟩
  exact ⟨b, i, u, hv, hb, cell_far hg hb hc, hR u w w' hg hr⟩
/-- The i-th of a list of facts. -/
def fact (l : List (Value → World → Prop)) (i : Nat) : Value → World → Prop := l.getD i (fun _ _ => True)
theorem fact_st {g : Nat} {l : List (Value → World → Prop)} (h : ∀ f ∈ l, Stable g f) (i : Nat) (v : Value) (w w' : World) (hg : w.grownBy w' (some g)) (hf : fact l i v w) : fact l i v w' := by
  unfold fact at *
  rw [List.getD_eq_getElem?_getD] at *
  cases hi : l[i]? with
  | none => trivial
  | some f =>
    rw [hi] at hf
    exact h f (List.mem_of_getElem? hi) v w w' hg hf

end Go.Proofs.YtfdhaigmekmboaaDoor

/- A region that draws its order, whose operations each give one value that is known, while the world keeps a law. No program in sight. -/
namespace Go.Proofs.YtfdhaigmekmboaaDoor
open Go.RowKit

section
variable {P : Program} {ops : Array Oper}
theorem wp_region_vals {id : Nat} {Q : Exit → Act → World → Prop} {a0 : Act} {w0 : World} (hm : P.follows .mixedOrders = true) (hp : plainB ops = true) (hback : backB ops = true) (hptr : ptrB ops = true)
    (hdst : (ops.all fun o => match o.dst with | some t => decide (t < a0.tmps.size) | none => true) = true) (hs : (ops.all fun o => o.dst.isSome) = true)
    (J : World → Prop) (L : List Value) (hJ : J w0.drew)
    (hop : ∀ (i : Nat) (o : Oper), ops[i]? = some o → ∀ (a : Act) (w : World), J w →
      (∀ t, freshB ops i t = true → a.tmps.getD t undef = a0.tmps.getD t undef) →
      (∀ e ∈ o.after, Region.binds .any e = true → slotOf2 ops e.on a = L.getD e.on undef) →
      o.wp P a w (fun a' w' => a' = a.put o.dst (L.getD i undef) ∧ J w') Q)
    (hend : ∀ (tm : Array Value) (w : World), J w → (∀ (i : Nat) (o : Oper), ops[i]? = some o → slotOf2 ops i ⟨tm, a0.defers⟩ = L.getD i undef) → Q .normal ⟨refillL ops.toList a0.tmps tm, a0.defers⟩ w) :
    (Code.region id ops true).wp P Q a0 w0 := by
  refine wp_region_inv3 hm hp hback hptr hdst (fun _ w => J w) (fun _ _ => True) (fun i v _ => v = L.getD i undef) hJ (fun i v w w' _ h => h) ?_ ?_
  · intro i o hi n a w _ hj hb hd
    refine Oper.wp_mono ?_ (hop i o hi a w hj hb hd)
    rintro a' w' ⟨h1, h2⟩
    refine ⟨_, h1, h2, trivial, ?_⟩
    have hso : o.dst.isSome = true := by
      have := Array.all_eq_true.1 hs
      obtain ⟨hlt, rfl⟩ := Array.getElem?_eq_some_iff.1 hi
      exact this i hlt
    simp [hso]
  · intro tm w hj hF
    exact hend tm w hj hF
end
end Go.Proofs.YtfdhaigmekmboaaDoor

/- Walks: the texts of folders. -/
namespace Go.Proofs.YtfdhaigmekmboaaDoor
open Go.RowKit

theorem entsText_succ {l : List Ent} {k : Nat} {x : Ent} (h : l[k]? = some x) : entsText (l.take (k + 1)) = entsText (l.take k) ++ entText x := by
  unfold entsText; rw [take_snoc' h]; simp
theorem entText_len {x : Ent} (h : entOk x = true) : (entText x).length ≤ 16 := by
  have hw := (entOk_iff.1 h).1
  simp only [wordOk, Bool.and_eq_true, decide_eq_true_eq] at hw
  have := hexT_len x.print
  have hz := bs_lenH x.name
  simp [entText]; omega
theorem entsText_len : ∀ {l : List Ent}, (∀ e ∈ l, entOk e = true) → (entsText l).length ≤ 16 * l.length
  | [], _ => by simp [entsText]
  | e :: r, h => by
    have h1 := entText_len (h e (by simp))
    have h2 := entsText_len (l := r) (fun x hx => h x (by simp [hx]))
    simp only [entsText, List.flatMap_cons, List.length_append, List.length_cons] at h2 ⊢
    omega
theorem name_len {x : Ent} (h : entOk x = true) : x.name.size ≤ 8 := by
  have hw := (entOk_iff.1 h).1
  simp only [wordOk, Bool.and_eq_true, decide_eq_true_eq] at hw
  have := hw.1.1.2
  simpa using this
/-- One entry's text behind what there is. -/
theorem ent_cat (T : List UInt8) (x : Ent) : strL T ++ (x.name ++ ⟨#[61]⟩ ++ strL (hexT x.print) ++ ⟨#[59]⟩) = strL (T ++ entText x) := by
  rw [← strL_bs x.name, show (⟨#[61]⟩ : ByteArray) = strL [61] from rfl, show (⟨#[59]⟩ : ByteArray) = strL [59] from rfl]
  simp only [strL_append]
  congr 1
  simp [entText]
theorem ent_cat2 (T : List UInt8) (x : Ent) : strL T ++ x.name ++ ⟨#[61]⟩ ++ strL (hexT x.print) ++ ⟨#[59]⟩ = strL (T ++ entText x) := by
  rw [← strL_bs x.name, show (⟨#[61]⟩ : ByteArray) = strL [61] from rfl, show (⟨#[59]⟩ : ByteArray) = strL [59] from rfl]
  simp only [strL_append]
  congr 1
  simp [entText]

set_option maxHeartbeats 2000000 in
set_option maxRecDepth 100000 in
theorem impl_FolderText_c (v : Value) (xs : List Ent) (w : World) (h : Ents w w.heap.size v xs) (hg : Glob w) :
    Calls Tryd.prog 39 #[v] w fun e w' => e = .returned (.string (strL (folderText xs))) ∧ Below w.heap.size w w' := by
  obtain ⟨n, hn⟩ : ∃ n, xs.length = n := ⟨_, rfl⟩
  obtain ⟨a, c, rfl, h1, h2, h3⟩ := h.ents hn
  have HN := hid hn
  cases hok : entsOk xs
  · have HO := hid (folder_off hok)
    clear h3 hn
    go_enter Tryd.func39, Tryd.ntmps39
    go_wp2_with fail
    refine (impl_EntriesValid_c _ xs _ h).mono ?_
    rw [hok]
    rintro e w1 ⟨rfl, b1⟩
    go_wp2
    go_ret
    exact ⟨by rw [HO.out]; rfl, b1⟩
  · have HO := hid (folder_on hok)
    have HA := hid (fun (e : Ent) (he : e ∈ xs) => ents_all hok he)
    have h3n := (ents_in hok).1
    rw [hn] at h3n
    have HK := hid hok
    have HG := hid hg
    go_enter Tryd.func39, Tryd.ntmps39
    go_wp2_with fail
    refine (impl_EntriesValid_c _ xs _ h).mono ?_
    rw [HK.out]
    rintro e w1 ⟨rfl, b1⟩
    have hs1 := b1.size
    clear hok h hn hg
    go_wp2
    go_loopw [3, 11] (fun tv i wr => ∃ (k : Nat) (T : List UInt8), k ≤ n ∧ i = .int .i64 k ∧ tv = .string (strL T) ∧ T.length ≤ 1 + 16 * k ∧ Hid (T = 100 :: entsText (xs.take k)) ∧ Below w1.heap.size w1 wr) (fun _ i _ => n - (intOf i).toNat)
    case atStart => exact ⟨0, [100], Nat.zero_le _, rfl, rfl, by simp, rfl, Below.refl _ _⟩
    case round =>
      obtain ⟨k, T, hk, rfl, rfl, hTl, hT, hb⟩ := hrel
      have c1 := bl_then b1 hb
      by_cases hlt : k < n
      · obtain ⟨b, o, t, r, rfl, hbl, hx, k0, k1⟩ := h3 k hlt
        have j0 := (c1.cell (p := ⟨b, o + k * 2, none⟩) hbl).trans k0
        have j1 := (c1.cell (p := ⟨b, o + k * 2 + 1, none⟩) hbl).trans k1
        have hoke := HA.out _ (List.mem_of_getElem? hx.out)
        have hsn := name_len hoke
        have hsh := hexT_len r
        have hlt16 := entText_len hoke
        have hcat := ent_cat T ⟨t, r⟩
        have hs0 := strL_size T
        have hs2 := strL_size (hexT r)
        have HT2 := hid (show T ++ entText ⟨t, r⟩ = 100 :: entsText (xs.take (k + 1)) by rw [entsText_succ hx.out, hT.out]; rfl)
        have HTL := hid (show (T ++ entText ⟨t, r⟩).length ≤ 1 + 16 * (k + 1) by simp; omega)
        have hal : Below w1.heap.size w1 (wr.alloc (.cells #[.string t, .int .i64 r] 37)) := hb.alloc hb.size _
        have hgl : Glob (wr.alloc (.cells #[.string t, .int .i64 r] 37)) := (HG.out.on c1).on ((Below.refl _ _).alloc (Nat.le_refl _) _)
        have hcell : (wr.alloc (.cells #[.string t, .int .i64 r] 37)).heap[wr.heap.size]? = some (.cells #[.string t, .int .i64 r] 37 (0, 0)) := heap_alloc_new _ _
        obtain ⟨g, hgn⟩ : ∃ g, g = wr.heap.size := ⟨_, rfl⟩
        simp only at hsn hcat
        clear k0 k1 h3 hoke hlt16
        go_wp2
        obtain ⟨W1, hW1⟩ : ∃ W1, W1 = wr.alloc (.cells #[.string t, .int .i64 r] 37) := ⟨_, rfl⟩
        rw [← hW1] at hal hgl hcell ⊢
        rw [← hgn] at hcell ⊢
        have hgW : g < W1.heap.size := (Array.getElem?_eq_some_iff.1 hcell).1
        clear hW1
        have hq1 : (strL T).size + (t ++ ⟨#[61]⟩ ++ strL (hexT r) ++ ⟨#[59]⟩ : ByteArray).size ≤ 1000 := by simp only [ByteArray.size_append, hs0, hs2]; have e1 : (⟨#[61]⟩ : ByteArray).size = 1 := rfl; have e2 : (⟨#[59]⟩ : ByteArray).size = 1 := rfl; omega
        have hq2 : t.size + (⟨#[61]⟩ : ByteArray).size ≤ 1000 := by have e1 : (⟨#[61]⟩ : ByteArray).size = 1 := rfl; omega
        have hq3 : (t ++ ⟨#[61]⟩ : ByteArray).size + (strL (hexT r)).size ≤ 1000 := by simp only [ByteArray.size_append, hs2]; have e1 : (⟨#[61]⟩ : ByteArray).size = 1 := rfl; omega
        have hq4 : (t ++ ⟨#[61]⟩ ++ strL (hexT r) : ByteArray).size + (⟨#[59]⟩ : ByteArray).size ≤ 1000 := by simp only [ByteArray.size_append, hs2]; have e1 : (⟨#[61]⟩ : ByteArray).size = 1 := rfl; have e2 : (⟨#[59]⟩ : ByteArray).size = 1 := rfl; omega
        refine wp_region_vals rfl (by kernel_rfl) (by kernel_rfl) (by kernel_rfl) (by simp) (by kernel_rfl) (fun w' => Below W1.heap.size W1 w') [.string (strL T), .pointer (some ⟨g, 0, none⟩), .string t, .string (t ++ ⟨#[61]⟩), .pointer (some ⟨g, 1, none⟩), .int .i64 r, .string (strL (hexT r)), .string (t ++ ⟨#[61]⟩ ++ strL (hexT r)), .string (t ++ ⟨#[61]⟩ ++ strL (hexT r) ++ ⟨#[59]⟩), .string (strL T ++ (t ++ ⟨#[61]⟩ ++ strL (hexT r) ++ ⟨#[59]⟩)), .string (strL T ++ (t ++ ⟨#[61]⟩ ++ strL (hexT r) ++ ⟨#[59]⟩))] (Below.refl _ _).drew ?_ ?_
        · intro i oo hi a' w4 hj' hb' hd
          obtain ⟨hlt1, rfl⟩ := Array.getElem?_eq_some_iff.1 hi
          have hlt' : i < 11 := hlt1
          clear hi
          have hcell4 := (hj'.block g hgW).trans hcell
          obtain rfl | rfl | rfl | rfl | rfl | rfl | rfl | rfl | rfl | rfl | rfl : i = 0 ∨ i = 1 ∨ i = 2 ∨ i = 3 ∨ i = 4 ∨ i = 5 ∨ i = 6 ∨ i = 7 ∨ i = 8 ∨ i = 9 ∨ i = 10 := by omega
          · have b1 : a'.eval (.tmp 3) = .string (strL T) := hb' 3 (by kernel_rfl)
            exact iv_val (by simp [execOp, b1]) ⟨rfl, hj'⟩
          · have b1 : a'.eval (.tmp 5) = .pointer (some ⟨g, 0, none⟩) := hb' 5 (by rfl); have u1 := ev_get b1
            exact iv_val (v := .pointer (some ⟨g, 0, none⟩)) (by simp [execOp, u1, go_sem, Result.andThen]) ⟨rfl, hj'⟩
          · have v1 : a'.eval (.tmp 16) = .pointer (some ⟨g, 0, none⟩) := hd ⟨1, .data⟩ (by simp) rfl; have u1 := ev_get v1
            have hc0 : w4.cell? ⟨g, 0, none⟩ = some (.string t) := by simp [World.cell?, hcell4]
            exact iv_val (v := .string t) (by simp [execOp, u1, hc0, go_sem, Result.andThen]) ⟨rfl, hj'⟩
          · have v1 : a'.eval (.tmp 17) = .string t := hd ⟨2, .data⟩ (by simp) rfl; have u1 := ev_get v1
            exact iv_val (v := .string (t ++ ⟨#[61]⟩)) (by simp [execOp, u1, go_sem, Result.andThen]; rw [if_neg (by omega)]) ⟨rfl, hj'⟩
          · have b1 : a'.eval (.tmp 5) = .pointer (some ⟨g, 0, none⟩) := hb' 5 (by rfl); have u1 := ev_get b1
            exact iv_val (v := .pointer (some ⟨g, 1, none⟩)) (by simp [execOp, u1, go_sem, Result.andThen]) ⟨rfl, hj'⟩
          · have v1 : a'.eval (.tmp 19) = .pointer (some ⟨g, 1, none⟩) := hd ⟨4, .data⟩ (by simp) rfl; have u1 := ev_get v1
            have hc0 : w4.cell? ⟨g, 1, none⟩ = some (.int .i64 r) := by simp [World.cell?, hcell4]
            exact iv_val (v := .int .i64 r) (by simp [execOp, u1, hc0, go_sem, Result.andThen]) ⟨rfl, hj'⟩
          · have v4 : a'.eval (.tmp 20) = .int .i64 r := hd ⟨5, .data⟩ (by simp) rfl; have u4 := ev_get v4
            refine iv_enter (f := 61) (args := #[.int .i64 r]) (by simp [execOp, u4, go_sem]) ?_
            refine (impl_HexText_c r _ (hgl.on hj')).mono ?_
            rintro e w5 ⟨rfl, b5⟩
            exact ⟨_, rfl, rfl, bl_then hj' b5⟩
          · have v1 : a'.eval (.tmp 18) = .string (t ++ ⟨#[61]⟩) := hd ⟨3, .data⟩ (by simp) rfl; have u1 := ev_get v1
            have v2 : a'.eval (.tmp 21) = .string (strL (hexT r)) := hd ⟨6, .data⟩ (by simp) rfl; have u2 := ev_get v2
            exact iv_val (v := .string (t ++ ⟨#[61]⟩ ++ strL (hexT r))) (by simp [execOp, u1, u2, go_sem, Result.andThen]; rw [if_neg (by omega)]) ⟨rfl, hj'⟩
          · have v1 : a'.eval (.tmp 22) = .string (t ++ ⟨#[61]⟩ ++ strL (hexT r)) := hd ⟨7, .data⟩ (by simp) rfl; have u1 := ev_get v1
            exact iv_val (v := .string (t ++ ⟨#[61]⟩ ++ strL (hexT r) ++ ⟨#[59]⟩)) (by simp [execOp, u1, go_sem, Result.andThen]; rw [if_neg (by omega)]) ⟨rfl, hj'⟩
          · have v1 : a'.eval (.tmp 15) = .string (strL T) := hd ⟨0, .data⟩ (by simp) rfl; have u1 := ev_get v1
            have v2 : a'.eval (.tmp 23) = .string (t ++ ⟨#[61]⟩ ++ strL (hexT r) ++ ⟨#[59]⟩) := hd ⟨8, .data⟩ (by simp) rfl; have u2 := ev_get v2
            exact iv_val (v := .string (strL T ++ (t ++ ⟨#[61]⟩ ++ strL (hexT r) ++ ⟨#[59]⟩))) (by simp [execOp, u1, u2, go_sem, Result.andThen]; rw [if_neg (by omega)]) ⟨rfl, hj'⟩
          · have v1 : a'.eval (.tmp 24) = .string (strL T ++ (t ++ ⟨#[61]⟩ ++ strL (hexT r) ++ ⟨#[59]⟩)) := hd ⟨9, .data⟩ (by simp) rfl
            exact iv_val (by simp [execOp, v1]) ⟨rfl, hj'⟩
        intro tm w4 hb4 hF
        have q := hF 10 _ rfl
        clear hF
        simp only [refillL, List.setIfInBounds_toArray, List.set_cons_succ, List.set_cons_zero]
        rw [show tm.getD 3 undef = .string (strL T ++ (t ++ ⟨#[61]⟩ ++ strL (hexT r) ++ ⟨#[59]⟩)) from q, hcat]
        have hb5 := hal.trans (hb4.mono hal.size)
        go_wp2
        go_roundw
        case rel => exact ⟨k + 1, _, by omega, by go_num, rfl, HTL.out, HT2, hb5⟩
        case measure => simp [intOf]; omega
      · have HF := hid (show T = folderText xs by rw [HO.out, hT.out, take_all HN.out (show n ≤ k by omega)])
        go_wp2
        go_ret
        exact ⟨by rw [← HF.out]; rfl, c1⟩

theorem spec_HexText_e (n : Int) (w : World) {s : ByteArray} (h : strL (hexT n) = s) :
    Calls Tryd.prog 69 #[.int .i64 n] w fun e w' => e = .returned (.string s) ∧ w = w' := h ▸ spec_HexText_c n w

set_option maxHeartbeats 2000000 in
set_option maxRecDepth 100000 in
theorem spec_FolderText_c (v : Value) (xs : List Ent) (w : World) (B : Nat) (h : Ents w B v xs) (hx0 : ∀ x ∈ xs, x.name.size ≤ 1048576) (hl0 : xs.length ≤ 1048576) :
    Calls Tryd.prog 55 #[v] w fun e w' => e = .returned (.string (strL (folderText xs))) ∧ ∃ q, w' = w.drewN q := by
  obtain ⟨n, hn⟩ : ∃ n, xs.length = n := ⟨_, rfl⟩
  obtain ⟨a, c, rfl, h1, h2, h3⟩ := h.ents hn
  have HN := hid hn
  cases hok : entsOk xs
  · have HO := hid (folder_off hok)
    clear h3 hn
    go_enter Tryd.func55, Tryd.ntmps55
    go_wp2_with fail
    refine (spec_EntriesValid_c _ xs _ _ h hx0 hl0).mono ?_
    rw [hok]
    rintro e w1 ⟨rfl, z, rfl⟩
    go_wp2
    go_ret
    exact ⟨by rw [HO.out]; rfl, z, rfl⟩
  · have HO := hid (folder_on hok)
    have HA := hid (fun (e : Ent) (he : e ∈ xs) => ents_all hok he)
    have h3n := (ents_in hok).1
    rw [hn] at h3n
    have HK := hid hok
    go_enter Tryd.func55, Tryd.ntmps55
    go_wp2_with fail
    refine (spec_EntriesValid_c _ xs _ _ h hx0 hl0).mono ?_
    rw [HK.out]
    rintro e w1 ⟨rfl, z, rfl⟩
    clear hok h hn hx0 hl0
    go_wp2
    go_loopw [3, 4] (fun tv i wr => ∃ (k q : Nat) (T : List UInt8), k ≤ n ∧ i = .int .i64 k ∧ tv = .string (strL T) ∧ T.length ≤ 1 + 16 * k ∧ Hid (T = 100 :: entsText (xs.take k)) ∧ wr = w.drewN q) (fun _ i _ => n - (intOf i).toNat)
    case atStart => exact ⟨0, z, [100], Nat.zero_le _, rfl, rfl, by simp, rfl, rfl⟩
    case round =>
      obtain ⟨k, q, T, hk, rfl, rfl, hTl, hT, rfl⟩ := hrel
      by_cases hlt : k < n
      · obtain ⟨b, o, t, r, rfl, hbl, hx, k0, k1⟩ := h3 k hlt
        have hoke := HA.out _ (List.mem_of_getElem? hx.out)
        have hsn := name_len hoke
        have hsh := hexT_len r
        have hlt16 := entText_len hoke
        have hcat := ent_cat2 T ⟨t, r⟩
        have hs0 := strL_size T
        have hs2 := strL_size (hexT r)
        obtain ⟨H, hH⟩ : ∃ H, strL (hexT r) = H := ⟨_, rfl⟩
        rw [hH] at hcat hs2
        have HH := hid hH
        have HT2 := hid (show T ++ entText ⟨t, r⟩ = 100 :: entsText (xs.take (k + 1)) by rw [entsText_succ hx.out, hT.out]; rfl)
        have HTL := hid (show (T ++ entText ⟨t, r⟩).length ≤ 1 + 16 * (k + 1) by simp; omega)
        simp only at hsn hcat
        clear h3 hoke hlt16 hH
        go_wp2
        go_quiet (first | (go_at_call 69; exact qsame (spec_HexText_e _ _ HH.out)) | fail)
        go_wp2
        go_roundw
        case rel => exact ⟨k + 1, _, _, by omega, by go_num, rfl, HTL.out, HT2, rfl⟩
        case measure => simp [intOf]; omega
      · have HF := hid (show T = folderText xs by rw [HO.out, hT.out, take_all HN.out (show n ≤ k by omega)])
        go_wp2
        go_ret
        exact ⟨by rw [← HF.out]; rfl, q, rfl⟩

end Go.Proofs.YtfdhaigmekmboaaDoor
