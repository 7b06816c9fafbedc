/- Walks: the texts of prints in the base 16, and what reads them. -/
import Derived.Test.YtkfkcbceoekgjaaDoorHex
import Derived.Test.YtkfkcbceoekgjaaDoorWord
namespace Go.Proofs.YtkfkcbceoekgjaaDoor
open Go.RowKit

/-- A list of bytes as a string. -/
def strL (l : List UInt8) : ByteArray := ⟨l.toArray⟩
theorem bs_strL (l : List UInt8) : bs (strL l) = l := by simp [bs, strL]
theorem strL_bs (s : ByteArray) : strL (bs s) = s := by
  cases s with | mk a => simp [bs, strL]
theorem strL_size (l : List UInt8) : (strL l).size = l.length := by simp [strL, ByteArray.size]
theorem strL_append (a b : List UInt8) : strL a ++ strL b = strL (a ++ b) := by
  apply ByteArray.ext
  simp [strL, ByteArray.data_append]
theorem strL_ne {a b : List UInt8} : ((strL a).toList == (strL b).toList) = decide (a = b) := by
  rw [ByteArray.toList_eq, ByteArray.toList_eq]
  simp only [strL]
  by_cases h : a = b
  · simp [h]
  · simp [h]
theorem str_beq (s : ByteArray) (b : List UInt8) : ((strL b).toList == s.toList) = decide (b = bs s) := by
  rw [← strL_bs s, strL_ne, bs_strL]
theorem str_beq' (s : ByteArray) (b : List UInt8) : (s.toList == (strL b).toList) = decide (bs s = b) := by
  rw [← strL_bs s, strL_ne, bs_strL]

set_option maxHeartbeats 400000 in
theorem FormatInt_c (n : Nat) (w : World) (hn : n < 16777216) (h : Glob w) :
    Calls Tryd.prog 87 #[.int .i64 n, .int .i64 16] w fun e w' => e = .returned (.string (strL (hexF 6 n))) ∧ Below w.heap.size w w' := by
  go_enter Tryd.func87, Tryd.ntmps87
  go_wp2_with fail
  refine (formatBits_c n _ hn h).mono ?_
  rintro e w1 ⟨rfl, b1⟩
  go_wp2
  go_ret
  exact ⟨rfl, b1⟩

set_option maxHeartbeats 400000 in
theorem strconv_FormatInt_c (n : Nat) (w : World) (hn : n < 16777216) (h : Glob w) :
    Calls Tryd.prog 80 #[.int .i64 n, .int .i64 16] w fun e w' => e = .returned (.string (strL (hexF 6 n))) ∧ Below w.heap.size w w' := by
  go_enter Tryd.func80, Tryd.ntmps80
  go_wp2_with fail
  refine (FormatInt_c n _ hn h).mono ?_
  rintro e w1 ⟨rfl, b1⟩
  go_wp2
  go_ret
  exact ⟨rfl, b1⟩

set_option maxHeartbeats 400000 in
theorem impl_HexText_c (n : Int) (w : World) (h : Glob w) :
    Calls Tryd.prog 73 #[.int .i64 n] w fun e w' => e = .returned (.string (strL (hexT n))) ∧ Below w.heap.size w w' := by
  cases hp : inB n 0 16777212
  · have HO := hid (hexT_off hp)
    go_enter Tryd.func73, Tryd.ntmps73
    go_wp2_with (go_at_call 79; refine (impl_printValid_c _ _).mono ?_; rw [hp]; rintro e w' ⟨rfl, rfl⟩)
    go_ret
    exact ⟨by rw [HO.out]; rfl, Below.refl _ _⟩
  · obtain ⟨k, rfl⟩ : ∃ k : Nat, n = k := ⟨n.toNat, by have := inB_yes hp; omega⟩
    have hk := (inB_yes hp).2
    have HO := hid (hexT_on hp)
    have HP := hid hp
    clear hp
    go_enter Tryd.func73, Tryd.ntmps73
    go_wp2_with fail
    refine (impl_printValid_c _ _).mono ?_
    rw [HP.out]
    rintro e w' ⟨rfl, rfl⟩
    go_wp2_with fail
    refine (strconv_FormatInt_c k _ (by omega) h).mono ?_
    rintro e w1 ⟨rfl, b1⟩
    go_wp2
    go_ret
    exact ⟨by rw [HO.out]; rfl, b1⟩

theorem dig16 (d : Nat) (hd : d < 16) : (⟨#[48, 49, 50, 51, 52, 53, 54, 55, 56, 57, 97, 98, 99, 100, 101, 102]⟩ : ByteArray).extract d (d + 1) = strL [hexD d] := by
  have : ∀ d : Fin 16, (⟨#[48, 49, 50, 51, 52, 53, 54, 55, 56, 57, 97, 98, 99, 100, 101, 102]⟩ : ByteArray).extract d.val (d.val + 1) = strL [hexD d.val] := by decide
  exact this ⟨d, hd⟩

set_option maxHeartbeats 2000000 in
set_option maxRecDepth 100000 in
theorem spec_HexText_c (n : Int) (w : World) :
    Calls Tryd.prog 59 #[.int .i64 n] w fun e w' => e = .returned (.string (strL (hexT n))) ∧ w = w' := by
  cases hp : inB n 0 16777212
  · have HO := hid (hexT_off hp)
    go_enter Tryd.func59, Tryd.ntmps59
    go_wp2_with (go_at_call 68; refine (spec_l1In_c _ _ _ _).mono ?_; rw [hp]; rintro e w' ⟨rfl, rfl⟩)
    go_ret
    exact ⟨by rw [HO.out]; rfl, rfl⟩
  · obtain ⟨k, rfl⟩ : ∃ k : Nat, n = k := ⟨n.toNat, by have := inB_yes hp; omega⟩
    have hk := (inB_yes hp).2
    have HO := hid ((hexT_on hp).trans (show hexF 6 (Int.toNat (k : Int)) = hexF 6 k from rfl))
    have HP := hid hp
    obtain ⟨d, hd⟩ : ∃ d, k % 16 = d := ⟨_, rfl⟩
    have hd16 : d < 16 := by omega
    have hdi : (k : Int) % 16 = d := by omega
    have hdig := dig16 d hd16
    have HS := hid (show (if k < 16 then [] else hexF 5 (k / 16)) ++ [hexD d] = hexF 6 k by
      rw [show hexF 6 k = if k < 16 then [hexD k] else hexF 5 (k / 16) ++ [hexD (k % 16)] from rfl, ← hd]
      split
      · rw [Nat.mod_eq_of_lt (by assumption)]; rfl
      · rfl)
    clear hp hd
    go_enter Tryd.func59, Tryd.ntmps59
    go_wp2_with fail
    refine (spec_l1In_c _ _ _ _).mono ?_
    rw [HP.out]
    rintro e w' ⟨rfl, rfl⟩
    go_wp2
    go_loop [0, 4] (fun un out => ∃ (f u : Nat) (D : List UInt8), un = .int .i64 u ∧ out = .string (strL D) ∧ u < 16 ^ (f + 1) ∧ u < 16777216 ∧ D.length + f ≤ 6 ∧ Hid ((if u < 16 then [] else hexF f (u / 16)) ++ D = hexF 6 k)) (fun un _ => (intOf un).toNat)
    case atStart => exact ⟨5, k, [hexD d], rfl, rfl, by omega, by omega, by simp, HS⟩
    case round =>
      obtain ⟨f, u, D, rfl, rfl, hu, hu9, hDf, hD⟩ := hrel
      clear hdig hdi
      by_cases h16 : 16 ≤ u
      · obtain ⟨f', rfl⟩ : ∃ f', f = f' + 1 := by
          cases f with
          | zero => simp at hu; omega
          | succ f' => exact ⟨f', rfl⟩
        obtain ⟨q, hq⟩ : ∃ q, u / 16 = q := ⟨_, rfl⟩
        obtain ⟨e, he⟩ : ∃ e, q % 16 = e := ⟨_, rfl⟩
        have he16 : e < 16 := by omega
        have hqi : (u : Int) / 16 = q := by omega
        have hei : (q : Int) % 16 = e := by omega
        have hdg := dig16 e he16
        have hcat := strL_append [hexD e] D
        have hsz : (strL [hexD e] ++ strL D).size ≤ 9 := by rw [hcat, strL_size]; simp; omega
        have hsz1 := strL_size [hexD e]
        have hsz2 := strL_size D
        have hq9 : q < 16 ^ (f' + 1) := by rw [Nat.pow_succ] at hu; omega
        have HQ := hid hq9
        have hqu : q < u := by omega
        have HN := hid (show (if q < 16 then [] else hexF f' (q / 16)) ++ (hexD e :: D) = hexF 6 k by
          have e1 : (if u < 16 then [] else hexF (f' + 1) (u / 16)) = hexF (f' + 1) q := by rw [if_neg (by omega), hq]
          rw [← hD.out, e1, hexF, ← he]
          split
          · rw [Nat.mod_eq_of_lt (by assumption)]; rfl
          · rw [List.append_assoc]; rfl)
        clear hu hq9 hq he hD
        simp only [List.length_cons, List.length_nil] at hsz1
        go_wp2
        go_round
        case rel => exact ⟨f', q, hexD e :: D, rfl, rfl, HQ.out, by omega, by simp; omega, HN⟩
        case measure => simp [intOf]; omega
      · have hfin := hid (show D = hexF 6 k by rw [← hD.out, if_pos (by omega)]; rfl)
        go_wp2
        go_ret
        exact ⟨by rw [HO.out, ← hfin.out]; rfl, rfl⟩

/-! ### Reading -/
theorem bs_lenH (s : ByteArray) : (bs s).length = s.size := by simp [bs]
theorem bs_getH (s : ByteArray) {k : Nat} (h : k < s.size) : (bs s)[k]? = some s[k] := by
  unfold bs
  rw [List.getElem?_eq_getElem (by simpa using h)]
  simp [ByteArray.getElem_eq_getElem_data]
theorem hexR_none : ∀ (l : List UInt8) (m k : Nat) (c : UInt8), l[k]? = some c → hexV c = none → hexR m l = none
  | [], _, k, c, h, _ => by simp at h
  | x :: r, m, 0, c, h, h' => by simp at h; subst h; simp [hexR, h']
  | x :: r, m, k + 1, c, h, h' => by
    simp only [hexR]
    cases hexV x with
    | none => rfl
    | some d => exact hexR_none r _ k c (by simpa using h) h'
theorem readHex_none {l : List UInt8} (h : 1 ≤ l.length ∧ l.length ≤ 6) (hn : hexR 0 l = none) : readHex l = -1 := by
  unfold readHex
  rw [if_pos h, hn]
theorem readHex_some {l : List UInt8} {n : Nat} (h : 1 ≤ l.length ∧ l.length ≤ 6) (hn : hexR 0 l = some n) : readHex l = if hexT (n : Int) = l then (n : Int) else -1 := by
  unfold readHex
  rw [if_pos h, hn]
theorem readHex_long {l : List UInt8} (h : ¬ (1 ≤ l.length ∧ l.length ≤ 6)) : readHex l = -1 := by
  unfold readHex
  rw [if_neg h]
theorem hexR_succ {l : List UInt8} {k n d : Nat} {c : UInt8} (h : l[k]? = some c) (hn : hexR 0 (l.take k) = some n) (hd : hexV c = some d) : hexR 0 (l.take (k + 1)) = some (16 * n + d) := by
  rw [take_snoc' h]
  exact hexR_append _ _ _ _ _ hn hd
theorem hexV_cases (c : UInt8) : (48 ≤ (c.toNat : Int) ∧ (c.toNat : Int) ≤ 57 ∧ hexV c = some (c.toNat - 48)) ∨ (¬ (48 ≤ (c.toNat : Int) ∧ (c.toNat : Int) ≤ 57) ∧ 97 ≤ (c.toNat : Int) ∧ (c.toNat : Int) ≤ 102 ∧ hexV c = some (c.toNat - 87)) ∨
    (¬ (48 ≤ (c.toNat : Int) ∧ (c.toNat : Int) ≤ 57) ∧ ¬ (97 ≤ (c.toNat : Int) ∧ (c.toNat : Int) ≤ 102) ∧ hexV c = none) := by
  unfold hexV
  by_cases h1 : 48 ≤ c.toNat ∧ c.toNat ≤ 57
  · rw [if_pos h1]; exact .inl ⟨by omega, by omega, rfl⟩
  · rw [if_neg h1]
    by_cases h2 : 97 ≤ c.toNat ∧ c.toNat ≤ 102
    · rw [if_pos h2]; exact .inr (.inl ⟨by omega, by omega, by omega, rfl⟩)
    · rw [if_neg h2]; exact .inr (.inr ⟨by omega, by omega, rfl⟩)

set_option maxHeartbeats 2000000 in
set_option maxRecDepth 100000 in
theorem impl_ReadHex_c (s : ByteArray) (w : World) (hg : Glob w) :
    Calls Tryd.prog 63 #[.string s] w fun e w' => e = .returned (.int .i64 (readHex (bs s))) ∧ Below w.heap.size w w' := by
  by_cases h0 : s.size < 1
  · have HO := hid (show readHex (bs s) = -1 by unfold readHex; rw [if_neg (by rw [bs_lenH]; omega)])
    go_enter Tryd.func63, Tryd.ntmps63
    go_wp2
    go_ret
    exact ⟨ret_i HO.out.symm, Below.refl _ _⟩
  · by_cases h6 : 6 < s.size
    · have HO := hid (show readHex (bs s) = -1 by unfold readHex; rw [if_neg (by rw [bs_lenH]; omega)])
      go_enter Tryd.func63, Tryd.ntmps63
      go_wp2
      go_ret
      exact ⟨ret_i HO.out.symm, Below.refl _ _⟩
    · have HO := hid (show 1 ≤ (bs s).length ∧ (bs s).length ≤ 6 by rw [bs_lenH]; omega)
      go_enter Tryd.func63, Tryd.ntmps63
      go_wp2
      go_loop [3, 4] (fun nv i => ∃ k n : Nat, k ≤ s.size ∧ i = .int .i64 k ∧ nv = .int .i64 n ∧ n < 16 ^ k ∧ n < 16777216 ∧ Hid (hexR 0 ((bs s).take k) = some n)) (fun _ i => s.size - (intOf i).toNat)
      case atStart => exact ⟨0, 0, Nat.zero_le _, rfl, rfl, by simp, by omega, rfl⟩
      case round =>
        obtain ⟨k, n, hk, rfl, rfl, hnk, hn9, hR⟩ := hrel
        by_cases hlt : k < s.size
        · have hx := hid (bs_getH s hlt)
          have hpow : 16 ^ (k + 1) ≤ 16777216 := Nat.le_trans (Nat.pow_le_pow_right (by omega) (show k + 1 ≤ 6 by omega)) (by decide)
          rcases hexV_cases s[k] with ⟨c1, c2, hv⟩ | ⟨c0, c1, c2, hv⟩ | ⟨c0, c1, hv⟩
          · have HR := hid (hexR_succ hx.out hR.out hv)
            have hdg : isDig (s[k].toNat : Int) = true := by simp [isDig, inB]; omega
            have hsub : IntKind.u8.wrap ((s[k].toNat : Int) - 48) = (s[k].toNat : Int) - 48 := by rw [IntKind.wrap_u8]; omega
            have hnn : (n : Int) * 16 + ((s[k].toNat : Int) - 48) = ((16 * n + (s[k].toNat - 48) : Nat) : Int) := by omega
            have hn2 : 16 * n + (s[k].toNat - 48) < 16 ^ (k + 1) := by rw [Nat.pow_succ]; omega
            have HN2 := hid hn2
            have hn3 : 16 * n + (s[k].toNat - 48) < 16777216 := by omega
            clear hv hn2
            go_wp2_with (go_at_call 72; refine (impl_isDigit_c _ _).mono ?_; rw [hdg]; rintro e w' ⟨rfl, rfl⟩)
            go_round
            case rel => exact ⟨k + 1, 16 * n + (s[k].toNat - 48), by omega, by go_num, by go_num, HN2.out, hn3, HR⟩
            case measure => simp [intOf]; omega
          · have HR := hid (hexR_succ hx.out hR.out hv)
            have hdg : isDig (s[k].toNat : Int) = false := by simp [isDig, inB]; omega
            have hsub : IntKind.u8.wrap ((s[k].toNat : Int) - 97) = (s[k].toNat : Int) - 97 := by rw [IntKind.wrap_u8]; omega
            have hn2 : 16 * n + (s[k].toNat - 87) < 16 ^ (k + 1) := by rw [Nat.pow_succ]; omega
            have HN2 := hid hn2
            have hn3 : 16 * n + (s[k].toNat - 87) < 16777216 := by omega
            clear hv hn2
            go_wp2_with (go_at_call 72; refine (impl_isDigit_c _ _).mono ?_; rw [hdg]; rintro e w' ⟨rfl, rfl⟩)
            go_round
            case rel => exact ⟨k + 1, 16 * n + (s[k].toNat - 87), by omega, by go_num, by go_num, HN2.out, hn3, HR⟩
            case measure => simp [intOf]; omega
          · have HF := hid (readHex_none HO.out (hexR_none _ 0 k _ hx.out hv))
            have hdg : isDig (s[k].toNat : Int) = false := by simp [isDig, inB]; omega
            by_cases c2 : 97 ≤ (s[k].toNat : Int)
            · have c3 : ¬ (s[k].toNat : Int) ≤ 102 := fun h => c1 ⟨c2, h⟩
              clear hv c1 c0
              go_wp2_with (go_at_call 72; refine (impl_isDigit_c _ _).mono ?_; rw [hdg]; rintro e w' ⟨rfl, rfl⟩)
              go_ret
              exact ⟨ret_i HF.out.symm, Below.refl _ _⟩
            · clear hv c1 c0
              go_wp2_with (go_at_call 72; refine (impl_isDigit_c _ _).mono ?_; rw [hdg]; rintro e w' ⟨rfl, rfl⟩)
              go_ret
              exact ⟨ret_i HF.out.symm, Below.refl _ _⟩
        · have hR' := hR.out
          rw [take_all (n := s.size) (by simp) (show s.size ≤ k by omega)] at hR'
          have HF := hid (readHex_some HO.out hR')
          clear hR' hR
          go_wp2_with fail
          refine (impl_HexText_c n _ hg).mono ?_
          rintro e w1 ⟨rfl, b1⟩
          have hbq := str_beq s (hexT (n : Int))
          by_cases he : hexT (n : Int) = bs s
          · have HE := hid (HF.out.trans (if_pos he))
            have hb2 : ((strL (hexT (n : Int))).toList == s.toList) = true := by rw [hbq]; exact decide_eq_true he
            clear hbq he
            go_wp2
            go_ret
            exact ⟨ret_i HE.out.symm, b1⟩
          · have HE := hid (HF.out.trans (if_neg he))
            have hb2 : ((strL (hexT (n : Int))).toList == s.toList) = false := by rw [hbq]; exact decide_eq_false he
            clear hbq he
            go_wp2
            go_ret
            exact ⟨ret_i HE.out.symm, b1⟩

set_option maxHeartbeats 2000000 in
set_option maxRecDepth 100000 in
theorem spec_ReadHex_c (s : ByteArray) (w : World) (hs : s.size ≤ 4611686018427387904) :
    Calls Tryd.prog 45 #[.string s] w fun e w' => e = .returned (.int .i64 (readHex (bs s))) ∧ w = w' := by
  by_cases hz : s.size = 0
  · have hsn : s = ⟨#[]⟩ := by
      have := strL_bs s
      rw [List.eq_nil_of_length_eq_zero (l := bs s) (by rw [bs_lenH]; exact hz)] at this
      exact this.symm
    subst hsn
    have HF := hid (readHex_long (l := bs ⟨#[]⟩) (by simp [bs]))
    go_enter Tryd.func45, Tryd.ntmps45
    go_wp2
    refine wp_loop_rounds 1 ?_
    rw [rounds_succ]
    go_wp2
    go_ret
    exact ⟨ret_i HF.out.symm, rfl⟩
  have hne0 : s.toList ≠ [] := by
    rw [ByteArray.toList_eq]
    intro e
    exact hz (by rw [← bs_lenH]; unfold bs; rw [e]; rfl)
  have hne1 : s.toList.isEmpty = false := by cases hl : s.toList with | nil => exact absurd hl hne0 | cons _ _ => rfl
  clear hne0
  go_enter Tryd.func45, Tryd.ntmps45
  go_wp2
  go_loop [3, 4] (fun nv i => ∃ k n : Nat, k ≤ s.size ∧ k ≤ 7 ∧ i = .int .i64 k ∧ nv = .int .i64 n ∧ n < 16 ^ k ∧ n < 268435456 ∧ Hid (hexR 0 ((bs s).take k) = some n)) (fun _ i => s.size - (intOf i).toNat)
  case atStart => exact ⟨0, 0, Nat.zero_le _, Nat.zero_le _, rfl, rfl, by simp, by omega, rfl⟩
  case round =>
    obtain ⟨k, n, hk, hk7, rfl, rfl, hnk, hn9, hR⟩ := hrel
    by_cases hlt : k < s.size
    · by_cases hlt7 : k < 7
      · have hx := hid (bs_getH s hlt)
        have hpow : 16 ^ (k + 1) ≤ 268435456 := Nat.le_trans (Nat.pow_le_pow_right (by omega) (show k + 1 ≤ 7 by omega)) (by decide)
        rcases hexV_cases s[k] with ⟨c1, c2, hv⟩ | ⟨c0, c1, c2, hv⟩ | ⟨c0, c1, hv⟩
        · have HR := hid (hexR_succ hx.out hR.out hv)
          have hsub : IntKind.u8.wrap ((s[k].toNat : Int) - 48) = (s[k].toNat : Int) - 48 := by rw [IntKind.wrap_u8]; omega
          have hn2 : 16 * n + (s[k].toNat - 48) < 16 ^ (k + 1) := by rw [Nat.pow_succ]; omega
          have HN2 := hid hn2
          have hn3 : 16 * n + (s[k].toNat - 48) < 268435456 := by omega
          clear hv hn2
          go_wp2
          go_round
          case rel => exact ⟨k + 1, 16 * n + (s[k].toNat - 48), by omega, by omega, by go_num, by go_num, HN2.out, hn3, HR⟩
          case measure => simp [intOf]; omega
        · have HR := hid (hexR_succ hx.out hR.out hv)
          have hsub : IntKind.u8.wrap ((s[k].toNat : Int) - 97) = (s[k].toNat : Int) - 97 := by rw [IntKind.wrap_u8]; omega
          have hn2 : 16 * n + (s[k].toNat - 87) < 16 ^ (k + 1) := by rw [Nat.pow_succ]; omega
          have HN2 := hid hn2
          have hn3 : 16 * n + (s[k].toNat - 87) < 268435456 := by omega
          have c3 : ¬ (s[k].toNat : Int) ≤ 57 := by omega
          clear hv hn2 c0
          go_wp2
          go_round
          case rel => exact ⟨k + 1, 16 * n + (s[k].toNat - 87), by omega, by omega, by go_num, by go_num, HN2.out, hn3, HR⟩
          case measure => simp [intOf]; omega
        · have HF := hid (show readHex (bs s) = -1 by
            by_cases h6 : 1 ≤ (bs s).length ∧ (bs s).length ≤ 6
            · exact readHex_none h6 (hexR_none _ 0 k _ hx.out hv)
            · exact readHex_long h6)
          by_cases c2 : 97 ≤ (s[k].toNat : Int)
          · have c3 : ¬ (s[k].toNat : Int) ≤ 102 := fun h => c1 ⟨c2, h⟩
            have c4 : ¬ (s[k].toNat : Int) ≤ 57 := by omega
            clear hv c1 c0
            go_wp2
            go_ret
            exact ⟨ret_i HF.out.symm, rfl⟩
          · by_cases c5 : 48 ≤ (s[k].toNat : Int)
            · have c6 : ¬ (s[k].toNat : Int) ≤ 57 := fun h => c0 ⟨c5, h⟩
              clear hv c1 c0
              go_wp2
              go_ret
              exact ⟨ret_i HF.out.symm, rfl⟩
            · clear hv c1 c0
              go_wp2
              go_ret
              exact ⟨ret_i HF.out.symm, rfl⟩
      · -- seven digits: no print has so many
        have hbq := str_beq s (hexT (n : Int))
        have hb2 : ((strL (hexT (n : Int))).toList == s.toList) = false := by
          rw [hbq]
          exact decide_eq_false (fun e => by have h1 := congrArg List.length e; rw [bs_lenH] at h1; have := hexT_len (n : Int); omega)
        have HF := hid (readHex_long (l := bs s) (by rw [bs_lenH]; omega))
        clear hbq
        go_wp2_with fail
        refine (spec_HexText_c n _).mono ?_
        rintro e w1 ⟨rfl, rfl⟩
        go_wp2
        go_ret
        exact ⟨ret_i HF.out.symm, rfl⟩
    · have hR' := hR.out
      rw [take_all (n := s.size) (by simp) (show s.size ≤ k by omega)] at hR'
      have HR := hid hR'
      clear hR' hR
      have hbq := str_beq s (hexT (n : Int))
      by_cases he : hexT (n : Int) = bs s
      · have HF := hid (show readHex (bs s) = n by
          by_cases h6 : 1 ≤ (bs s).length ∧ (bs s).length ≤ 6
          · rw [readHex_some h6 HR.out, if_pos he]
          · exfalso
            have := hexT_len (n : Int)
            rw [he] at this
            have h1 : (bs s).length = 0 := by omega
            rw [bs_lenH] at h1
            exact hz h1)
        have hb2 : ((strL (hexT (n : Int))).toList == s.toList) = true := by rw [hbq]; exact decide_eq_true he
        clear hbq he
        go_wp2_with fail
        refine (spec_HexText_c n _).mono ?_
        rintro e w1 ⟨rfl, rfl⟩
        go_wp2
        go_ret
        exact ⟨ret_i HF.out.symm, rfl⟩
      · have HF := hid (show readHex (bs s) = -1 by
          by_cases h6 : 1 ≤ (bs s).length ∧ (bs s).length ≤ 6
          · rw [readHex_some h6 HR.out, if_neg he]
          · exact readHex_long h6)
        have hb2 : ((strL (hexT (n : Int))).toList == s.toList) = false := by rw [hbq]; exact decide_eq_false he
        clear hbq he
        go_wp2_with fail
        refine (spec_HexText_c n _).mono ?_
        rintro e w1 ⟨rfl, rfl⟩
        go_wp2
        go_ret
        exact ⟨ret_i HF.out.symm, rfl⟩

end Go.Proofs.YtkfkcbceoekgjaaDoor
