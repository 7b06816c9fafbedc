/- Walks and plain facts, joined: HexT, Find. -/
import Derived.Test.YtachfmlfmpaddaaGreatDoorMg3
import Derived.Test.YtachfmlfmpaddaaGreatDoorMg8
set_option linter.unusedVariables false
set_option linter.unusedSimpArgs false

/- Walks: the texts of prints in the base 16, and what reads them. -/
namespace Go.Proofs.YtachfmlfmpaddaaGreatDoor
open Go.RowKit

/-- A list of bytes as a string. -/
def strL (l : List UInt8) : ByteArray := ⟨l.toArray⟩
theorem bs_strL (l : List UInt8) : bs (strL l) = l := by simp [bs, strL]
theorem strL_bs (s : ByteArray) : strL (bs s) = s := by
  cases s with | mk a => simp [bs, strL]
theorem strL_size (l : List UInt8) : (strL l).size = l.length := by simp [strL, ByteArray.size]
theorem strL_append (a b : List UInt8) : strL a ++ strL b = strL (a ++ b) := by
  apply ByteArray.ext
  simp [strL, ByteArray.data_append]
theorem strL_ne {a b : List UInt8} : ((strL a).toList == (strL b).toList) = decide (a = b) := by
  rw [ByteArray.toList_eq, ByteArray.toList_eq]
  simp only [strL]
  by_cases h : a = b
  · simp [h]
  · simp [h]
theorem str_beq (s : ByteArray) (b : List UInt8) : ((strL b).toList == s.toList) = decide (b = bs s) := by
  rw [← strL_bs s, strL_ne, bs_strL]
theorem str_beq' (s : ByteArray) (b : List UInt8) : (s.toList == (strL b).toList) = decide (bs s = b) := by
  rw [← strL_bs s, strL_ne, bs_strL]

set_option maxHeartbeats 400000 in
theorem FormatInt_c (n : Nat) (w : World) (hn : n < 16777216) (h : Glob w) :
    Calls Tryz.prog 187 #[.int .i64 n, .int .i64 16] w fun e w' => e = .returned (.string (strL (hexF 6 n))) ∧ Below w.heap.size w w' := by
  go_enter Tryz.func187, Tryz.ntmps187
  go_wp2_with fail
  refine (formatBits_c n _ hn h).mono ?_
  rintro e w1 ⟨rfl, b1⟩
  go_wp2
  go_ret
  exact ⟨rfl, b1⟩

set_option maxHeartbeats 400000 in
theorem strconv_FormatInt_c (n : Nat) (w : World) (hn : n < 16777216) (h : Glob w) :
    Calls Tryz.prog 174 #[.int .i64 n, .int .i64 16] w fun e w' => e = .returned (.string (strL (hexF 6 n))) ∧ Below w.heap.size w w' := by
  go_enter Tryz.func174, Tryz.ntmps174
  go_wp2_with fail
  refine (FormatInt_c n _ hn h).mono ?_
  rintro e w1 ⟨rfl, b1⟩
  go_wp2
  go_ret
  exact ⟨rfl, b1⟩

set_option maxHeartbeats 400000 in
theorem impl_HexText_c (n : Int) (w : World) (h : Glob w) :
    Calls Tryz.prog 151 #[.int .i64 n] w fun e w' => e = .returned (.string (strL (hexT n))) ∧ Below w.heap.size w w' := by
  cases hp : inB n 0 16777212
  · have HO := hid (hexT_off hp)
    go_enter Tryz.func151, Tryz.ntmps151
    go_wp2_with (go_at_call 171; refine (impl_printValid_c _ _).mono ?_; rw [hp]; rintro e w' ⟨rfl, rfl⟩)
    go_ret
    exact ⟨by rw [HO.out]; rfl, Below.refl _ _⟩
  · obtain ⟨k, rfl⟩ : ∃ k : Nat, n = k := ⟨n.toNat, by have := inB_yes hp; omega⟩
    have hk := (inB_yes hp).2
    have HO := hid (hexT_on hp)
    have HP := hid hp
    clear hp
    go_enter Tryz.func151, Tryz.ntmps151
    go_wp2_with fail
    refine (impl_printValid_c _ _).mono ?_
    rw [HP.out]
    rintro e w' ⟨rfl, rfl⟩
    go_wp2_with fail
    refine (strconv_FormatInt_c k _ (by omega) h).mono ?_
    rintro e w1 ⟨rfl, b1⟩
    go_wp2
    go_ret
    exact ⟨by rw [HO.out]; rfl, b1⟩

theorem dig16 (d : Nat) (hd : d < 16) : (⟨#[48, 49, 50, 51, 52, 53, 54, 55, 56, 57, 97, 98, 99, 100, 101, 102]⟩ : ByteArray).extract d (d + 1) = strL [hexD d] := by
  have : ∀ d : Fin 16, (⟨#[48, 49, 50, 51, 52, 53, 54, 55, 56, 57, 97, 98, 99, 100, 101, 102]⟩ : ByteArray).extract d.val (d.val + 1) = strL [hexD d.val] := by decide
  exact this ⟨d, hd⟩

set_option maxHeartbeats 2000000 in
set_option maxRecDepth 100000 in
theorem spec_HexText_c (n : Int) (w : World) :
    Calls Tryz.prog 177 #[.int .i64 n] w fun e w' => e = .returned (.string (strL (hexT n))) ∧ w = w' := by
  cases hp : inB n 0 16777212
  · have HO := hid (hexT_off hp)
    go_enter Tryz.func177, Tryz.ntmps177
    go_wp2_with (go_at_call 135; refine (spec_l1In_c _ _ _ _).mono ?_; rw [hp]; rintro e w' ⟨rfl, rfl⟩)
    go_ret
    exact ⟨by rw [HO.out]; rfl, rfl⟩
  · obtain ⟨k, rfl⟩ : ∃ k : Nat, n = k := ⟨n.toNat, by have := inB_yes hp; omega⟩
    have hk := (inB_yes hp).2
    have HO := hid ((hexT_on hp).trans (show hexF 6 (Int.toNat (k : Int)) = hexF 6 k from rfl))
    have HP := hid hp
    obtain ⟨d, hd⟩ : ∃ d, k % 16 = d := ⟨_, rfl⟩
    have hd16 : d < 16 := by omega
    have hdi : (k : Int) % 16 = d := by omega
    have hdig := dig16 d hd16
    have HS := hid (show (if k < 16 then [] else hexF 5 (k / 16)) ++ [hexD d] = hexF 6 k by
      rw [show hexF 6 k = if k < 16 then [hexD k] else hexF 5 (k / 16) ++ [hexD (k % 16)] from rfl, ← hd]
      split
      · rw [Nat.mod_eq_of_lt (by assumption)]; rfl
      · rfl)
    clear hp hd
    go_enter Tryz.func177, Tryz.ntmps177
    go_wp2_with fail
    refine (spec_l1In_c _ _ _ _).mono ?_
    rw [HP.out]
    rintro e w' ⟨rfl, rfl⟩
    go_wp2
    go_loop [0, 4] (fun un out => ∃ (f u : Nat) (D : List UInt8), un = .int .i64 u ∧ out = .string (strL D) ∧ u < 16 ^ (f + 1) ∧ u < 16777216 ∧ D.length + f ≤ 6 ∧ Hid ((if u < 16 then [] else hexF f (u / 16)) ++ D = hexF 6 k)) (fun un _ => (intOf un).toNat)
    case atStart => exact ⟨5, k, [hexD d], rfl, rfl, by omega, by omega, by simp, HS⟩
    case round =>
      obtain ⟨f, u, D, rfl, rfl, hu, hu9, hDf, hD⟩ := hrel
      clear hdig hdi
      by_cases h16 : 16 ≤ u
      · obtain ⟨f', rfl⟩ : ∃ f', f = f' + 1 := by
          cases f with
          | zero => simp at hu; omega
          | succ f' => exact ⟨f', rfl⟩
        obtain ⟨q, hq⟩ : ∃ q, u / 16 = q := ⟨_, rfl⟩
        obtain ⟨e, he⟩ : ∃ e, q % 16 = e := ⟨_, rfl⟩
        have he16 : e < 16 := by omega
        have hqi : (u : Int) / 16 = q := by omega
        have hei : (q : Int) % 16 = e := by omega
        have hdg := dig16 e he16
        have hcat := strL_append [hexD e] D
        have hsz : (strL [hexD e] ++ strL D).size ≤ 9 := by rw [hcat, strL_size]; simp; omega
        have hsz1 := strL_size [hexD e]
        have hsz2 := strL_size D
        have hq9 : q < 16 ^ (f' + 1) := by rw [Nat.pow_succ] at hu; omega
        have HQ := hid hq9
        have hqu : q < u := by omega
        have HN := hid (show (if q < 16 then [] else hexF f' (q / 16)) ++ (hexD e :: D) = hexF 6 k by
          have e1 : (if u < 16 then [] else hexF (f' + 1) (u / 16)) = hexF (f' + 1) q := by rw [if_neg (by omega), hq]
          rw [← hD.out, e1, hexF, ← he]
          split
          · rw [Nat.mod_eq_of_lt (by assumption)]; rfl
          · rw [List.append_assoc]; rfl)
        clear hu hq9 hq he hD
        simp only [List.length_cons, List.length_nil] at hsz1
        go_wp2
        go_round
        case rel => exact ⟨f', q, hexD e :: D, rfl, rfl, HQ.out, by omega, by simp; omega, HN⟩
        case measure => simp [intOf]; omega
      · have hfin := hid (show D = hexF 6 k by rw [← hD.out, if_pos (by omega)]; rfl)
        go_wp2
        go_ret
        exact ⟨by rw [HO.out, ← hfin.out]; rfl, rfl⟩

/-! ### Reading -/
theorem bs_lenH (s : ByteArray) : (bs s).length = s.size := by simp [bs]
theorem bs_getH (s : ByteArray) {k : Nat} (h : k < s.size) : (bs s)[k]? = some s[k] := by
  unfold bs
  rw [List.getElem?_eq_getElem (by simpa using h)]
  simp [ByteArray.getElem_eq_getElem_data]
theorem hexR_none : ∀ (l : List UInt8) (m k : Nat) (c : UInt8), l[k]? = some c → hexV c = none → hexR m l = none
  | [], _, k, c, h, _ => by simp at h
  | x :: r, m, 0, c, h, h' => by simp at h; subst h; simp [hexR, h']
  | x :: r, m, k + 1, c, h, h' => by
    simp only [hexR]
    cases hexV x with
    | none => rfl
    | some d => exact hexR_none r _ k c (by simpa using h) h'
theorem readHex_none {l : List UInt8} (h : 1 ≤ l.length ∧ l.length ≤ 6) (hn : hexR 0 l = none) : readHex l = -1 := by
  unfold readHex
  rw [if_pos h, hn]
theorem readHex_some {l : List UInt8} {n : Nat} (h : 1 ≤ l.length ∧ l.length ≤ 6) (hn : hexR 0 l = some n) : readHex l = if hexT (n : Int) = l then (n : Int) else -1 := by
  unfold readHex
  rw [if_pos h, hn]
theorem readHex_long {l : List UInt8} (h : ¬ (1 ≤ l.length ∧ l.length ≤ 6)) : readHex l = -1 := by
  unfold readHex
  rw [if_neg h]
theorem hexR_succ {l : List UInt8} {k n d : Nat} {c : UInt8} (h : l[k]? = some c) (hn : hexR 0 (l.take k) = some n) (hd : hexV c = some d) : hexR 0 (l.take (k + 1)) = some (16 * n + d) := by
  rw [take_snoc' h]
  exact hexR_append _ _ _ _ _ hn hd
theorem hexV_cases (c : UInt8) : (48 ≤ (c.toNat : Int) ∧ (c.toNat : Int) ≤ 57 ∧ hexV c = some (c.toNat - 48)) ∨ (¬ (48 ≤ (c.toNat : Int) ∧ (c.toNat : Int) ≤ 57) ∧ 97 ≤ (c.toNat : Int) ∧ (c.toNat : Int) ≤ 102 ∧ hexV c = some (c.toNat - 87)) ∨
    (¬ (48 ≤ (c.toNat : Int) ∧ (c.toNat : Int) ≤ 57) ∧ ¬ (97 ≤ (c.toNat : Int) ∧ (c.toNat : Int) ≤ 102) ∧ hexV c = none) := by
  unfold hexV
  by_cases h1 : 48 ≤ c.toNat ∧ c.toNat ≤ 57
  · rw [if_pos h1]; exact .inl ⟨by omega, by omega, rfl⟩
  · rw [if_neg h1]
    by_cases h2 : 97 ≤ c.toNat ∧ c.toNat ≤ 102
    · rw [if_pos h2]; exact .inr (.inl ⟨by omega, by omega, by omega, rfl⟩)
    · rw [if_neg h2]; exact .inr (.inr ⟨by omega, by omega, rfl⟩)

set_option maxHeartbeats 2000000 in
set_option maxRecDepth 100000 in
theorem impl_ReadHex_c (s : ByteArray) (w : World) (hg : Glob w) :
    Calls Tryz.prog 131 #[.string s] w fun e w' => e = .returned (.int .i64 (readHex (bs s))) ∧ Below w.heap.size w w' := by
  by_cases h0 : s.size < 1
  · have HO := hid (show readHex (bs s) = -1 by unfold readHex; rw [if_neg (by rw [bs_lenH]; omega)])
    go_enter Tryz.func131, Tryz.ntmps131
    go_wp2
    go_ret
    exact ⟨ret_i HO.out.symm, Below.refl _ _⟩
  · by_cases h6 : 6 < s.size
    · have HO := hid (show readHex (bs s) = -1 by unfold readHex; rw [if_neg (by rw [bs_lenH]; omega)])
      go_enter Tryz.func131, Tryz.ntmps131
      go_wp2
      go_ret
      exact ⟨ret_i HO.out.symm, Below.refl _ _⟩
    · have HO := hid (show 1 ≤ (bs s).length ∧ (bs s).length ≤ 6 by rw [bs_lenH]; omega)
      go_enter Tryz.func131, Tryz.ntmps131
      go_wp2
      go_loop [3, 4] (fun nv i => ∃ k n : Nat, k ≤ s.size ∧ i = .int .i64 k ∧ nv = .int .i64 n ∧ n < 16 ^ k ∧ n < 16777216 ∧ Hid (hexR 0 ((bs s).take k) = some n)) (fun _ i => s.size - (intOf i).toNat)
      case atStart => exact ⟨0, 0, Nat.zero_le _, rfl, rfl, by simp, by omega, rfl⟩
      case round =>
        obtain ⟨k, n, hk, rfl, rfl, hnk, hn9, hR⟩ := hrel
        by_cases hlt : k < s.size
        · have hx := hid (bs_getH s hlt)
          have hpow : 16 ^ (k + 1) ≤ 16777216 := Nat.le_trans (Nat.pow_le_pow_right (by omega) (show k + 1 ≤ 6 by omega)) (by decide)
          rcases hexV_cases s[k] with ⟨c1, c2, hv⟩ | ⟨c0, c1, c2, hv⟩ | ⟨c0, c1, hv⟩
          · have HR := hid (hexR_succ hx.out hR.out hv)
            have hdg : isDig (s[k].toNat : Int) = true := by simp [isDig, inB]; omega
            have hsub : IntKind.u8.wrap ((s[k].toNat : Int) - 48) = (s[k].toNat : Int) - 48 := by rw [IntKind.wrap_u8]; omega
            have hnn : (n : Int) * 16 + ((s[k].toNat : Int) - 48) = ((16 * n + (s[k].toNat - 48) : Nat) : Int) := by omega
            have hn2 : 16 * n + (s[k].toNat - 48) < 16 ^ (k + 1) := by rw [Nat.pow_succ]; omega
            have HN2 := hid hn2
            have hn3 : 16 * n + (s[k].toNat - 48) < 16777216 := by omega
            clear hv hn2
            go_wp2_with (go_at_call 125; refine (impl_isDigit_c _ _).mono ?_; rw [hdg]; rintro e w' ⟨rfl, rfl⟩)
            go_round
            case rel => exact ⟨k + 1, 16 * n + (s[k].toNat - 48), by omega, by go_num, by go_num, HN2.out, hn3, HR⟩
            case measure => simp [intOf]; omega
          · have HR := hid (hexR_succ hx.out hR.out hv)
            have hdg : isDig (s[k].toNat : Int) = false := by simp [isDig, inB]; omega
            have hsub : IntKind.u8.wrap ((s[k].toNat : Int) - 97) = (s[k].toNat : Int) - 97 := by rw [IntKind.wrap_u8]; omega
            have hn2 : 16 * n + (s[k].toNat - 87) < 16 ^ (k + 1) := by rw [Nat.pow_succ]; omega
            have HN2 := hid hn2
            have hn3 : 16 * n + (s[k].toNat - 87) < 16777216 := by omega
            clear hv hn2
            go_wp2_with (go_at_call 125; refine (impl_isDigit_c _ _).mono ?_; rw [hdg]; rintro e w' ⟨rfl, rfl⟩)
            go_round
            case rel => exact ⟨k + 1, 16 * n + (s[k].toNat - 87), by omega, by go_num, by go_num, HN2.out, hn3, HR⟩
            case measure => simp [intOf]; omega
          · have HF := hid (readHex_none HO.out (hexR_none _ 0 k _ hx.out hv))
            have hdg : isDig (s[k].toNat : Int) = false := by simp [isDig, inB]; omega
            by_cases c2 : 97 ≤ (s[k].toNat : Int)
            · have c3 : ¬ (s[k].toNat : Int) ≤ 102 := fun h => c1 ⟨c2, h⟩
              clear hv c1 c0
              go_wp2_with (go_at_call 125; refine (impl_isDigit_c _ _).mono ?_; rw [hdg]; rintro e w' ⟨rfl, rfl⟩)
              go_ret
              exact ⟨ret_i HF.out.symm, Below.refl _ _⟩
            · clear hv c1 c0
              go_wp2_with (go_at_call 125; refine (impl_isDigit_c _ _).mono ?_; rw [hdg]; rintro e w' ⟨rfl, rfl⟩)
              go_ret
              exact ⟨ret_i HF.out.symm, Below.refl _ _⟩
        · have hR' := hR.out
          rw [take_all (n := s.size) (by simp) (show s.size ≤ k by omega)] at hR'
          have HF := hid (readHex_some HO.out hR')
          clear hR' hR
          go_wp2_with fail
          refine (impl_HexText_c n _ hg).mono ?_
          rintro e w1 ⟨rfl, b1⟩
          have hbq := str_beq s (hexT (n : Int))
          by_cases he : hexT (n : Int) = bs s
          · have HE := hid (HF.out.trans (if_pos he))
            have hb2 : ((strL (hexT (n : Int))).toList == s.toList) = true := by rw [hbq]; exact decide_eq_true he
            clear hbq he
            go_wp2
            go_ret
            exact ⟨ret_i HE.out.symm, b1⟩
          · have HE := hid (HF.out.trans (if_neg he))
            have hb2 : ((strL (hexT (n : Int))).toList == s.toList) = false := by rw [hbq]; exact decide_eq_false he
            clear hbq he
            go_wp2
            go_ret
            exact ⟨ret_i HE.out.symm, b1⟩

set_option maxHeartbeats 2000000 in
set_option maxRecDepth 100000 in
theorem spec_ReadHex_c (s : ByteArray) (w : World) (hs : s.size ≤ 4611686018427387904) :
    Calls Tryz.prog 159 #[.string s] w fun e w' => e = .returned (.int .i64 (readHex (bs s))) ∧ w = w' := by
  by_cases hz : s.size = 0
  · have hsn : s = ⟨#[]⟩ := by
      have := strL_bs s
      rw [List.eq_nil_of_length_eq_zero (l := bs s) (by rw [bs_lenH]; exact hz)] at this
      exact this.symm
    subst hsn
    have HF := hid (readHex_long (l := bs ⟨#[]⟩) (by simp [bs]))
    go_enter Tryz.func159, Tryz.ntmps159
    go_wp2
    refine wp_loop_rounds 1 ?_
    rw [rounds_succ]
    go_wp2
    go_ret
    exact ⟨ret_i HF.out.symm, rfl⟩
  have hne0 : s.toList ≠ [] := by
    rw [ByteArray.toList_eq]
    intro e
    exact hz (by rw [← bs_lenH]; unfold bs; rw [e]; rfl)
  have hne1 : s.toList.isEmpty = false := by cases hl : s.toList with | nil => exact absurd hl hne0 | cons _ _ => rfl
  clear hne0
  go_enter Tryz.func159, Tryz.ntmps159
  go_wp2
  go_loop [3, 4] (fun nv i => ∃ k n : Nat, k ≤ s.size ∧ k ≤ 7 ∧ i = .int .i64 k ∧ nv = .int .i64 n ∧ n < 16 ^ k ∧ n < 268435456 ∧ Hid (hexR 0 ((bs s).take k) = some n)) (fun _ i => s.size - (intOf i).toNat)
  case atStart => exact ⟨0, 0, Nat.zero_le _, Nat.zero_le _, rfl, rfl, by simp, by omega, rfl⟩
  case round =>
    obtain ⟨k, n, hk, hk7, rfl, rfl, hnk, hn9, hR⟩ := hrel
    by_cases hlt : k < s.size
    · by_cases hlt7 : k < 7
      · have hx := hid (bs_getH s hlt)
        have hpow : 16 ^ (k + 1) ≤ 268435456 := Nat.le_trans (Nat.pow_le_pow_right (by omega) (show k + 1 ≤ 7 by omega)) (by decide)
        rcases hexV_cases s[k] with ⟨c1, c2, hv⟩ | ⟨c0, c1, c2, hv⟩ | ⟨c0, c1, hv⟩
        · have HR := hid (hexR_succ hx.out hR.out hv)
          have hsub : IntKind.u8.wrap ((s[k].toNat : Int) - 48) = (s[k].toNat : Int) - 48 := by rw [IntKind.wrap_u8]; omega
          have hn2 : 16 * n + (s[k].toNat - 48) < 16 ^ (k + 1) := by rw [Nat.pow_succ]; omega
          have HN2 := hid hn2
          have hn3 : 16 * n + (s[k].toNat - 48) < 268435456 := by omega
          clear hv hn2
          go_wp2
          go_round
          case rel => exact ⟨k + 1, 16 * n + (s[k].toNat - 48), by omega, by omega, by go_num, by go_num, HN2.out, hn3, HR⟩
          case measure => simp [intOf]; omega
        · have HR := hid (hexR_succ hx.out hR.out hv)
          have hsub : IntKind.u8.wrap ((s[k].toNat : Int) - 97) = (s[k].toNat : Int) - 97 := by rw [IntKind.wrap_u8]; omega
          have hn2 : 16 * n + (s[k].toNat - 87) < 16 ^ (k + 1) := by rw [Nat.pow_succ]; omega
          have HN2 := hid hn2
          have hn3 : 16 * n + (s[k].toNat - 87) < 268435456 := by omega
          have c3 : ¬ (s[k].toNat : Int) ≤ 57 := by omega
          clear hv hn2 c0
          go_wp2
          go_round
          case rel => exact ⟨k + 1, 16 * n + (s[k].toNat - 87), by omega, by omega, by go_num, by go_num, HN2.out, hn3, HR⟩
          case measure => simp [intOf]; omega
        · have HF := hid (show readHex (bs s) = -1 by
            by_cases h6 : 1 ≤ (bs s).length ∧ (bs s).length ≤ 6
            · exact readHex_none h6 (hexR_none _ 0 k _ hx.out hv)
            · exact readHex_long h6)
          by_cases c2 : 97 ≤ (s[k].toNat : Int)
          · have c3 : ¬ (s[k].toNat : Int) ≤ 102 := fun h => c1 ⟨c2, h⟩
            have c4 : ¬ (s[k].toNat : Int) ≤ 57 := by omega
            clear hv c1 c0
            go_wp2
            go_ret
            exact ⟨ret_i HF.out.symm, rfl⟩
          · by_cases c5 : 48 ≤ (s[k].toNat : Int)
            · have c6 : ¬ (s[k].toNat : Int) ≤ 57 := fun h => c0 ⟨c5, h⟩
              clear hv c1 c0
              go_wp2
              go_ret
              exact ⟨ret_i HF.out.symm, rfl⟩
            · clear hv c1 c0
              go_wp2
              go_ret
              exact ⟨ret_i HF.out.symm, rfl⟩
      · -- seven digits: no print has so many
        have hbq := str_beq s (hexT (n : Int))
        have hb2 : ((strL (hexT (n : Int))).toList == s.toList) = false := by
          rw [hbq]
          exact decide_eq_false (fun e => by have h1 := congrArg List.length e; rw [bs_lenH] at h1; have := hexT_len (n : Int); omega)
        have HF := hid (readHex_long (l := bs s) (by rw [bs_lenH]; omega))
        clear hbq
        go_wp2_with fail
        refine (spec_HexText_c n _).mono ?_
        rintro e w1 ⟨rfl, rfl⟩
        go_wp2
        go_ret
        exact ⟨ret_i HF.out.symm, rfl⟩
    · have hR' := hR.out
      rw [take_all (n := s.size) (by simp) (show s.size ≤ k by omega)] at hR'
      have HR := hid hR'
      clear hR' hR
      have hbq := str_beq s (hexT (n : Int))
      by_cases he : hexT (n : Int) = bs s
      · have HF := hid (show readHex (bs s) = n by
          by_cases h6 : 1 ≤ (bs s).length ∧ (bs s).length ≤ 6
          · rw [readHex_some h6 HR.out, if_pos he]
          · exfalso
            have := hexT_len (n : Int)
            rw [he] at this
            have h1 : (bs s).length = 0 := by omega
            rw [bs_lenH] at h1
            exact hz h1)
        have hb2 : ((strL (hexT (n : Int))).toList == s.toList) = true := by rw [hbq]; exact decide_eq_true he
        clear hbq he
        go_wp2_with fail
        refine (spec_HexText_c n _).mono ?_
        rintro e w1 ⟨rfl, rfl⟩
        go_wp2
        go_ret
        exact ⟨ret_i HF.out.symm, rfl⟩
      · have HF := hid (show readHex (bs s) = -1 by
          by_cases h6 : 1 ≤ (bs s).length ∧ (bs s).length ≤ 6
          · rw [readHex_some h6 HR.out, if_neg he]
          · exact readHex_long h6)
        have hb2 : ((strL (hexT (n : Int))).toList == s.toList) = false := by rw [hbq]; exact decide_eq_false he
        clear hbq he
        go_wp2_with fail
        refine (spec_HexText_c n _).mono ?_
        rintro e w1 ⟨rfl, rfl⟩
        go_wp2
        go_ret
        exact ⟨ret_i HF.out.symm, rfl⟩

end Go.Proofs.YtachfmlfmpaddaaGreatDoor

/- Walks: where a print is in a store. -/
namespace Go.Proofs.YtachfmlfmpaddaaGreatDoor
open Go.RowKit

theorem find_at {l : List Pc} {n : Int} (h : storeOk l = true) (hh : hasP l n = true) : ∃ x : Pc, l[findAt l n]? = some x ∧ getP l n = some x.text ∧ x.print = n := by
  cases hg : l[findAt l n]? with
  | none =>
    exfalso
    have := find_no (l := l) (n := n) (st_asc h) (fun z hz => by rw [hg] at hz; cases hz)
    unfold hasP at hh
    rw [this] at hh
    cases hh
  | some z =>
    by_cases hz : z.print = n
    · exact ⟨z, rfl, find_has (st_asc h) hg hz, hz⟩
    · exfalso
      have := find_no (l := l) (n := n) (st_asc h) (fun z' hz' => by rw [hg] at hz'; rw [← Option.some.inj hz']; exact hz)
      unfold hasP at hh
      rw [this] at hh
      cases hh

def cmpI (x y : Int) : Int := if x < y then -1 else if y < x then 1 else 0

set_option maxHeartbeats 400000 in
theorem cmp_isNaN_c (x : Int) (w : World) :
    Calls Tryz.prog 168 #[.int .i64 x] w fun e w' => e = .returned (.bool false) ∧ w = w' := by
  go_enter Tryz.func168, Tryz.ntmps168
  go_wp2
  go_ret
  exact ⟨by simp, rfl⟩

set_option maxHeartbeats 400000 in
theorem cmp_Compare_c (x y : Int) (w : World) :
    Calls Tryz.prog 142 #[.int .i64 x, .int .i64 y] w fun e w' => e = .returned (.int .i64 (cmpI x y)) ∧ w = w' := by
  by_cases h1 : x < y
  · have HO := hid (show cmpI x y = -1 by unfold cmpI; rw [if_pos h1])
    go_enter Tryz.func142, Tryz.ntmps142
    go_wp2_with (go_at_call 168; refine (cmp_isNaN_c _ _).mono ?_; rintro e w' ⟨rfl, rfl⟩)
    go_ret
    exact ⟨ret_i HO.out.symm, rfl⟩
  · by_cases h2 : y < x
    · have HO := hid (show cmpI x y = 1 by unfold cmpI; rw [if_neg h1, if_pos h2])
      go_enter Tryz.func142, Tryz.ntmps142
      go_wp2_with (go_at_call 168; refine (cmp_isNaN_c _ _).mono ?_; rintro e w' ⟨rfl, rfl⟩)
      go_ret
      exact ⟨ret_i HO.out.symm, rfl⟩
    · have HO := hid (show cmpI x y = 0 by unfold cmpI; rw [if_neg h1, if_neg h2])
      go_enter Tryz.func142, Tryz.ntmps142
      go_wp2_with (go_at_call 168; refine (cmp_isNaN_c _ _).mono ?_; rintro e w' ⟨rfl, rfl⟩)
      go_ret
      exact ⟨ret_i HO.out.symm, rfl⟩

set_option maxHeartbeats 400000 in
theorem impl_findPiece1_c (r : Int) (t : ByteArray) (y z : Int) (hz : cmpI r y = z) (w : World) :
    Calls Tryz.prog 141 #[.agg #[.int .i64 r, .string t], .int .i64 y] w fun e w' => e = .returned (.int .i64 z) ∧ Below w.heap.size w w' := by
  have HZ := hid hz
  clear hz
  go_enter Tryz.func141, Tryz.ntmps141
  go_wp2_with (go_at_call 142; refine (cmp_Compare_c _ _ _).mono ?_; rintro e w' ⟨rfl, rfl⟩)
  go_ret
  exact ⟨ret_i HZ.out, (Below.refl _ _).alloc (Nat.le_refl _) _⟩

set_option maxHeartbeats 2000000 in
set_option maxRecDepth 100000 in
theorem bsearch_c (v : Value) (xs : List Pc) (y : Int) (w : World) (h : Pcs w w.heap.size v xs) (ha : xs.Pairwise (fun a b => a.print < b.print)) (hl : xs.length ≤ 1048576) :
    Calls Tryz.prog 140 #[v, .int .i64 y, .func (.func 141) #[] #[]] w fun e w' => e = .returned (.tuple #[.int .i64 (findAt xs y), .bool (hasP xs y)]) ∧ Below w.heap.size w w' := by
  obtain ⟨n, hn⟩ : ∃ n, xs.length = n := ⟨_, rfl⟩
  obtain ⟨a, c, rfl, h1, h2, h3⟩ := h.pcs hn
  rw [hn] at hl
  have HN := hid hn
  have HA := hid ha
  clear hn ha h
  go_enter Tryz.func140, Tryz.ntmps140
  go_wp2
  go_loopw [9, 10] (fun i j wr => ∃ lo hi : Nat, i = .int .i64 lo ∧ j = .int .i64 hi ∧ lo ≤ hi ∧ hi ≤ n ∧ Hid ((∀ (q : Nat) (x : Pc), q < lo → xs[q]? = some x → x.print < y) ∧ (∀ (q : Nat) (x : Pc), hi ≤ q → xs[q]? = some x → y ≤ x.print)) ∧ Below w.heap.size w wr) (fun i j _ => (intOf j).toNat - (intOf i).toNat)
  case atStart => exact ⟨0, n, rfl, rfl, Nat.zero_le _, Nat.le_refl _, hid ⟨fun q x hq => absurd hq (Nat.not_lt_zero _), fun q x hq hg => absurd (List.getElem?_eq_some_iff.1 hg).1 (by have := HN.out; omega)⟩, Below.refl _ _⟩
  case round =>
    obtain ⟨lo, hi, rfl, rfl, hlh, hin, hinv, hb⟩ := hrel
    by_cases hlt : lo < hi
    · obtain ⟨m, hm⟩ : ∃ m, (lo + hi) / 2 = m := ⟨_, rfl⟩
      have hmi : ((lo : Int) + (hi : Int)) / 2 = (m : Int) := by omega
      have hm1 : lo ≤ m := by omega
      have hm2 : m < hi := by omega
      obtain ⟨b, o, r, t, rfl, hbl, hx, k0, k1⟩ := h3 m (by omega)
      have j0 := (hb.cell (p := ⟨b, o + m * 2, none⟩) hbl).trans k0
      have j1 := (hb.cell (p := ⟨b, o + m * 2 + 1, none⟩) hbl).trans k1
      clear k0 k1 h3 hm
      obtain ⟨z, hz⟩ : ∃ z, cmpI r y = z := ⟨_, rfl⟩
      by_cases hry : r < y
      · have hz1 : z = -1 := by rw [← hz]; unfold cmpI; rw [if_pos hry]
        subst hz1
        have HZ := hid hz
        have HS := hid (show ∀ (q : Nat) (x : Pc), q < m + 1 → xs[q]? = some x → x.print < y by
          intro q x hq hg
          rcases Nat.lt_succ_iff_lt_or_eq.1 hq with h | rfl
          · have := asc_get HA.out hg hx.out h
            simp only at this; omega
          · rw [hx.out] at hg; rw [← Option.some.inj hg]; exact hry)
        clear hz hry
        go_wp2_with fail
        refine (impl_findPiece1_c r t y _ HZ.out _).mono ?_
        rintro e w4 ⟨rfl, b4⟩
        have hb4 := bl_then hb b4
        clear b4
        go_wp2
        go_roundw
        case rel => exact ⟨m + 1, hi, by go_num, rfl, by omega, hin, hid ⟨HS.out, hinv.out.2⟩, hb4⟩
        case measure => simp [intOf]; omega
      · have hz0 : ¬ z < 0 := by rw [← hz]; unfold cmpI; rw [if_neg hry]; split <;> omega
        have hz0' : decide (z < 0) = false := by simp; omega
        have HZ := hid hz
        have HS := hid (show ∀ (q : Nat) (x : Pc), m ≤ q → xs[q]? = some x → y ≤ x.print by
          intro q x hq hg
          rcases Nat.lt_or_eq_of_le hq with h | rfl
          · have := asc_get HA.out hx.out hg h
            simp only at this; omega
          · rw [hx.out] at hg; rw [← Option.some.inj hg]; simp only; omega)
        clear hz hry
        go_wp2_with fail
        refine (impl_findPiece1_c r t y _ HZ.out _).mono ?_
        rintro e w4 ⟨rfl, b4⟩
        have hb4 := bl_then hb b4
        clear b4
        go_wp2
        go_roundw
        case rel => exact ⟨lo, m, rfl, rfl, by omega, by omega, hid ⟨hinv.out.1, HS.out⟩, hb4⟩
        case measure => simp [intOf]; omega
    · obtain rfl : hi = lo := by omega
      have HF := hid (findAt_eq (l := xs) (n := y) (k := hi) (by rw [HN.out]; exact hin) hinv.out.1 (fun x hx => hinv.out.2 _ _ (Nat.le_refl _) hx))
      by_cases hend : hi < n
      · obtain ⟨b, o, r, t, rfl, hbl, hx, k0, k1⟩ := h3 hi hend
        have j0 := (hb.cell (p := ⟨b, o + hi * 2, none⟩) hbl).trans k0
        have j1 := (hb.cell (p := ⟨b, o + hi * 2 + 1, none⟩) hbl).trans k1
        clear k0 k1 h3
        obtain ⟨z, hz⟩ : ∃ z, cmpI r y = z := ⟨_, rfl⟩
        have hry := hinv.out.2 _ _ (Nat.le_refl _) hx.out
        simp only at hry
        have hzb : (z == 0) = hasP xs y := by
          rw [Bool.eq_iff_iff, hasP_iff, beq_iff_eq]
          constructor
          · intro h0
            refine ⟨_, List.mem_of_getElem? hx.out, ?_⟩
            rw [← hz] at h0
            unfold cmpI at h0
            split at h0
            · simp at h0
            · split at h0
              · simp at h0
              · simp only; omega
          · rintro ⟨x, hxm, rfl⟩
            obtain ⟨q, hq, e⟩ := List.getElem_of_mem hxm
            have hg : xs[q]? = some x := by rw [List.getElem?_eq_getElem hq, e]
            have hqi : q = hi := by
              rcases Nat.lt_trichotomy q hi with h | h | h
              · have := hinv.out.1 _ _ h hg; omega
              · exact h
              · have := asc_get HA.out hx.out hg h; simp only at this; omega
            subst hqi
            rw [hx.out] at hg
            have := Option.some.inj hg
            subst this
            rw [← hz]; unfold cmpI; simp
        have HZ := hid hz
        have HZB := hid hzb
        clear hz hry hzb
        go_wp2_with fail
        refine (impl_findPiece1_c r t y _ HZ.out _).mono ?_
        rintro e w4 ⟨rfl, b4⟩
        have hb4 := bl_then hb b4
        clear b4
        go_wp2
        go_ret2
        exact ⟨by rw [HF.out, ← HZB.out]; rfl, hb4⟩
      · have HH := hid (show hasP xs y = false by
          rw [Bool.eq_false_iff]
          intro hh
          obtain ⟨x, hxm, hxy⟩ := hasP_iff.1 hh
          obtain ⟨q, hq, e⟩ := List.getElem_of_mem hxm
          have hg : xs[q]? = some x := by rw [List.getElem?_eq_getElem hq, e]
          have := hinv.out.1 _ _ (by have := HN.out; omega) hg
          omega)
        clear h3
        go_wp2
        go_ret2
        exact ⟨by rw [HF.out, HH.out]; rfl, hb⟩

set_option maxHeartbeats 400000 in
theorem impl_findPiece_c (v : Value) (xs : List Pc) (y : Int) (w : World) (h : Pcs w w.heap.size v xs) (ho : storeOk xs = true) :
    Calls Tryz.prog 89 #[v, .int .i64 y] w fun e w' => e = .returned (.tuple #[.int .i64 (findAt xs y), .bool (hasP xs y)]) ∧ Below w.heap.size w w' := by
  obtain ⟨n, hn⟩ : ∃ n, xs.length = n := ⟨_, rfl⟩
  obtain ⟨a, c, rfl, h1, h2, h3⟩ := h.pcs hn
  have h40 := (st_in ho).1
  have HO := hid ho
  clear h3
  go_enter Tryz.func89, Tryz.ntmps89
  go_wp2_with fail
  refine (bsearch_c _ xs y _ h (st_asc HO.out) (by omega)).mono ?_
  rintro e w1 ⟨rfl, b1⟩
  go_wp2
  go_ret2
  exact ⟨rfl, b1⟩

set_option maxHeartbeats 400000 in
theorem impl_textOf_c (v : Value) (xs : List Pc) (y : Int) (w : World) (h : Pcs w w.heap.size v xs) (ho : storeOk xs = true) :
    Calls Tryz.prog 66 #[v, .int .i64 y] w fun e w' => e = .returned (.tuple #[.string ((getP xs y).getD ByteArray.empty), .bool (hasP xs y)]) ∧ Below w.heap.size w w' := by
  obtain ⟨n, hn⟩ : ∃ n, xs.length = n := ⟨_, rfl⟩
  obtain ⟨a, c, rfl, h1, h2, h3⟩ := h.pcs hn
  have HN := hid hn
  have HO := hid ho
  clear hn ho
  obtain ⟨q, hq⟩ : ∃ q, findAt xs y = q := ⟨_, rfl⟩
  have HQ := hid hq
  cases hh : hasP xs y
  · have HG := hid (show getP xs y = none by unfold hasP at hh; simpa using hh)
    have HH := hid hh
    clear hh hq h3
    go_enter Tryz.func66, Tryz.ntmps66
    go_wp2_with fail
    refine (impl_findPiece_c _ xs y _ h HO.out).mono ?_
    rw [HQ.out, HH.out]
    rintro e w1 ⟨rfl, b1⟩
    go_wp2
    go_ret2
    exact ⟨by rw [HG.out]; rfl, b1⟩
  · have hex : ∃ x, xs[q]? = some x ∧ x.print = y := by
      obtain ⟨x, hxm, hxy⟩ := hasP_iff.1 hh
      cases hg : xs[q]? with
      | none =>
        exfalso
        have := find_no (l := xs) (n := y) (st_asc HO.out) (fun z hz => by rw [hq, hg] at hz; cases hz)
        unfold hasP at hh
        rw [this] at hh
        cases hh
      | some z =>
        by_cases hz : z.print = y
        · exact ⟨z, rfl, hz⟩
        · exfalso
          have := find_no (l := xs) (n := y) (st_asc HO.out) (fun z' hz' => by rw [hq, hg] at hz'; rw [← Option.some.inj hz']; exact hz)
          unfold hasP at hh
          rw [this] at hh
          cases hh
    obtain ⟨x, hx1, hx2⟩ := hex
    have hqn : q < n := by have := (List.getElem?_eq_some_iff.1 hx1).1; have := HN.out; omega
    have hgt := find_has (l := xs) (n := y) (x := x) (st_asc HO.out) (by rw [hq]; exact hx1) hx2
    obtain ⟨b, o, r, t, rfl, hbl, hx, k0, k1⟩ := h3 q hqn
    have hxr : x = ⟨r, t⟩ := by have := hx1.symm.trans hx.out; simpa using this
    subst hxr
    have HG := hid hgt
    have HH := hid hh
    clear hh hq h3 hgt hx1 hx2 k0
    go_enter Tryz.func66, Tryz.ntmps66
    go_wp2_with fail
    refine (impl_findPiece_c _ xs y _ h HO.out).mono ?_
    rw [HQ.out, HH.out]
    rintro e w1 ⟨rfl, b1⟩
    have j1 := (b1.cell (p := ⟨b, o + q * 2 + 1, none⟩) hbl).trans k1
    have hqn' : (q : Int) < n := by omega
    go_wp2
    go_ret2
    exact ⟨by rw [HG.out]; rfl, b1⟩

end Go.Proofs.YtachfmlfmpaddaaGreatDoor
