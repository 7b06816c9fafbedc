/- Walks: the law on right seals. -/
import Derived.Test.YtnedkfmbeeodfaaDrawW
import Derived.Test.YtnedkfmbeeodfaaSealsR
import Derived.Test.YtnedkfmbeeodfaaLawO
import Derived.Test.YtnedkfmbeeodfaaInvH
namespace Go.Proofs.Ytnedkfmbeeodfaa
open Go.RowKit

/-- Seals are told right, or there is a first one that is not. -/
theorem part_cases : ∀ (l ss : List Int) (j : Nat), ss.length ≤ l.length → (partAt j l ss = -1 ∧ l = ss) ∨ ∃ k y, partAt j l ss = ((j + k : Nat) : Int) ∧ l[k]? = some y ∧ ss[k]? ≠ some y ∧ k ≤ ss.length ∧ l.take k = ss.take k
  | [], ss, j, h => .inl ⟨rfl, by cases ss with | nil => rfl | cons a r => simp at h⟩
  | x :: r, [], j, _ => .inr ⟨0, x, by simp [partAt], rfl, by simp, by simp, rfl⟩
  | x :: r, y :: t, j, h => by
    by_cases hxy : x = y
    · subst hxy
      simp only [partAt, if_true]
      rcases part_cases r t (j + 1) (by simpa using h) with ⟨h1, h2⟩ | ⟨k, z, h1, h2, h3, h4, h5⟩
      · exact .inl ⟨h1, by rw [h2]⟩
      · exact .inr ⟨k + 1, z, by rw [h1]; congr 1; omega, by simpa using h2, by simpa using h3, by simpa using h4, by simp [h5]⟩
    · exact .inr ⟨0, x, by simp [partAt, hxy], rfl, by simp [Ne.symm hxy], by simp, rfl⟩

def lwF (l : List Value) : List (Value → World → Prop) := l.map isV
theorem lwF_gr {l : List Value} : ∀ f ∈ lwF l, Grow f := by
  intro f hf
  obtain ⟨v, _, rfl⟩ := List.mem_map.1 hf
  exact isV_gr _
def lwW (i : Nat) : Bool := decide (i < 25) || decide (34 ≤ i)
def lwA (_ : Nat) : Bool := true

set_option maxHeartbeats 2000000 in
theorem laws_FnSealsRight_c (v : Value) (l : List Int) (w : World) (h : Rd encU 1 w w.heap.size v l) (hl : ∀ x ∈ l, 0 ≤ x ∧ x ≤ 255) :
    Calls Try.prog 14 #[v] w fun e w' => e = .returned (.bool true) ∧ Below w.heap.size w w' := by
  obtain ⟨n0, hn0⟩ : ∃ n, l.length = n := ⟨_, rfl⟩
  obtain ⟨a, c, rfl, _, _, _⟩ := Rd.openN h (fun _ => rfl) hn0
  by_cases hbig : 1048576 < n0
  · go_enter Try.func14, Try.ntmps14
    go_wp2
    go_ret
    exact ⟨rfl, Below.refl _ _⟩
  · go_enter Try.func14, Try.ntmps14
    go_wp2_with fail
    refine (spec_DrawSealsRight_c _ l w h hl).mono ?_
    rintro e w1 ⟨lv, sv, xs, ss, rfl, o1, hlen, hnote, s1, hsl, b1⟩
    clear h hl hn0
    obtain ⟨n, hn⟩ : ∃ n, xs.length = n := ⟨_, rfl⟩
    obtain ⟨m, hm⟩ : ∃ m, ss.length = m := ⟨_, rfl⟩
    obtain ⟨la, lc, rfl, hlc, _, _⟩ := (Rd.of_own o1).vers hn
    obtain ⟨sa, sc, rfl, hsc, hsc9, hsg⟩ := s1.ints hm
    have HX : Hid (∀ x ∈ xs, x.note.size ≤ 1048576) := fun x hx => by have := hnote x hx; omega
    obtain ⟨q, hq⟩ : ∃ q, sealsRight xs ss = q := ⟨_, rfl⟩
    go_wp2_with fail
    refine (impl_SealsRight_c _ _ xs ss _ (Rd.of_own o1) s1).mono ?_
    rw [hq]
    rintro e w2 ⟨rfl, b2⟩
    have c2 := bl_then b1 b2
    have p2 := o1.on b2
    have s2 := Rd.on s1 b2
    go_wp2_with fail
    refine (spec_SealsRight_c _ _ xs ss _ (Rd.of_own p2) s2 HX.out (by omega)).mono ?_
    rw [hq]
    rintro e w3 ⟨rfl, b3⟩
    have c3 := bl_then c2 b3
    have p3 := p2.on b3
    have s3 := Rd.on s2 b3
    have b13 := b2.trans (b3.mono b2.size)
    clear o1 p2 s1 s2 b1 b2 b3 c2 hnote
    have HN := hid hn
    have HM := hid hm
    have hlen12 := hlen
    rw [hn] at hlen12
    rw [hm] at hsl
    clear hlen
    cases hok : vsOk xs
    · rw [sr_off1 hok] at hq
      subst hq
      clear hn hm hsg
      go_wp2_with fail
      refine (impl_VersionsValid_c _ xs _ (Rd.of_own p3)).mono ?_
      rw [hok]
      rintro e w4 ⟨rfl, b4⟩
      go_wp2_with (go_at_call 21; refine (laws_alive_c _).mono ?_; rintro e w' ⟨rfl, rfl⟩)
      go_ret
      exact ⟨rfl, bl_then c3 b4⟩
    · by_cases hnm : n < m
      · rw [sr_off2 (by rw [hn, hm]; exact hnm)] at hq
        subst hq
        have hnmi : (n : Int) < m := by omega
        clear hn hm hsg
        go_wp2_with fail
        refine (impl_VersionsValid_c _ xs _ (Rd.of_own p3)).mono ?_
        rw [hok]
        rintro e w4 ⟨rfl, b4⟩
        go_wp2_with (go_at_call 21; refine (laws_alive_c _).mono ?_; rintro e w' ⟨rfl, rfl⟩)
        go_ret
        exact ⟨rfl, bl_then c3 b4⟩
      · obtain ⟨R, hR⟩ : ∃ R, sealsOf xs = R := ⟨_, rfl⟩
        have hRn : R.length = n := by rw [← hR, seals_on hok, sealsFrom_len, hn]
        have hq' := hq
        rw [sr_on hok (by rw [hn, hm]; omega), ← seals_on hok, hR] at hq'
        have hpc := part_cases R ss 0 (by rw [hRn, hm]; omega)
        rw [hq'] at hpc
        have HQ := hid hq
        have HR := hid hR
        have HRN := hid hRn
        clear hq hq' hR hRn hn hm hok
        rcases hpc with ⟨rfl, rfl⟩ | ⟨k, ry, hqk, hry0, hsy0, hkm, htk⟩
        · clear hsg
          go_wp2_with fail
          refine (impl_SealsOf_c _ xs _ (Rd.of_own p3)).mono ?_
          rw [HR.out]
          rintro e w4 ⟨rv, rfl, o4, b4⟩
          have c4 := bl_then c3 b4
          have p4 := p3.on b4
          have s4 := Rd.on s3 b4
          clear p3 s3
          obtain ⟨ra, rc, rfl, hrc, hrc9, _⟩ := (Rd.of_own o4).ints HRN.out
          go_wp2_with fail
          refine (laws_sameInts_b' _ _ R _ _ _ s4 (Rd.of_own o4)).mono ?_
          rintro e w5 ⟨rfl, b5⟩
          have c5 := bl_then c4 b5
          have p5 := p4.on b5
          have o5 := o4.on b5
          go_wp2_with fail
          refine (impl_SealsRight_c _ _ xs R _ (Rd.of_own p5) (Rd.of_own o5)).mono ?_
          rw [HQ.out]
          rintro e w6 ⟨rfl, b6⟩
          go_wp2
          go_ret
          exact ⟨rfl, bl_then c5 b6⟩
        · obtain rfl : q = k := by rw [hqk]; simp
          clear hqk
          have hRl : k < n := by rw [← HRN.out]; exact (List.getElem?_eq_some_iff.1 hry0).1
          have HRY := hid hry0
          have HSY := hid hsy0
          have HTK := hid htk
          have hkm' : k ≤ m := by rw [← HM.out]; exact hkm
          clear hry0 hsy0 htk hkm
          go_wp2_with fail
          refine (impl_SealsOf_c _ xs _ (Rd.of_own p3)).mono ?_
          rw [HR.out]
          rintro e wr ⟨rv, rfl, o4, b4⟩
          have cw := bl_then c3 b4
          have s4 := Rd.on s3 b4
          have b14 := b13.trans (b4.mono b13.size)
          clear p3 s3
          obtain ⟨ra, rc, rfl, hrc, hrc9, hrg⟩ := (Rd.of_own o4).ints HRN.out
          obtain ⟨rb, ro, ry', rfl, hrb, hry1, hry⟩ := hrg k hRl
          obtain rfl : ry' = ry := by have := hry1.out.symm.trans HRY.out; simpa using this
          have hkri : (k : Int) < n := by omega
          have hkmi : (k : Int) ≤ m := by omega
          have hcap1 : (k : Int) ≤ sc := by omega
          have hcap2 : (k : Int) ≤ rc := by omega
          have hsk := Rd.front s4 hkm'
          have hrk := Rd.front (Rd.of_own o4) (Nat.le_of_lt hRl)
          rw [HTK.out] at hrk
          by_cases hke : k = m
          · have heq : ((k : Int) == (m : Int)) = true := by simp [hke]
            clear hke hsg o4 s4 HX HN HM HR HRN HRY HSY HTK hry1 HQ
            have hrl : n = n := rfl
            go_wp2
            refine wp_region_inv3h rfl (by kernel_rfl) (by kernel_rfl) (by kernel_rfl) (by kernel_rfl) (by simp) (fun _ w' => Below wr.heap.size wr w') (fun w' w'' => ∀ i v, fact (lwF [.int .i64 k, .slice sa m sc, .int .i64 m, .bool true, .bool true, .int .i64 k, .slice (some ⟨rb, ro, none⟩) n rc, .int .i64 n, .bool true, .bool true, .bool true, .slice sa m sc, .int .i64 k, .slice sa k sc, .slice (some ⟨rb, ro, none⟩) n rc, .int .i64 k, .slice (some ⟨rb, ro, none⟩) k rc, .bool true, .bool true, .bool true, .int .i64 k, .slice sa m sc, .int .i64 m, .bool true, .bool true, undef, undef, undef, undef, undef, undef, undef, undef, undef, .bool true, .bool true, .bool true]) i v w' → fact (lwF [.int .i64 k, .slice sa m sc, .int .i64 m, .bool true, .bool true, .int .i64 k, .slice (some ⟨rb, ro, none⟩) n rc, .int .i64 n, .bool true, .bool true, .bool true, .slice sa m sc, .int .i64 k, .slice sa k sc, .slice (some ⟨rb, ro, none⟩) n rc, .int .i64 k, .slice (some ⟨rb, ro, none⟩) k rc, .bool true, .bool true, .bool true, .int .i64 k, .slice sa m sc, .int .i64 m, .bool true, .bool true, undef, undef, undef, undef, undef, undef, undef, undef, undef, .bool true, .bool true, .bool true]) i v w'') (fact (lwF [.int .i64 k, .slice sa m sc, .int .i64 m, .bool true, .bool true, .int .i64 k, .slice (some ⟨rb, ro, none⟩) n rc, .int .i64 n, .bool true, .bool true, .bool true, .slice sa m sc, .int .i64 k, .slice sa k sc, .slice (some ⟨rb, ro, none⟩) n rc, .int .i64 k, .slice (some ⟨rb, ro, none⟩) k rc, .bool true, .bool true, .bool true, .int .i64 k, .slice sa m sc, .int .i64 m, .bool true, .bool true, undef, undef, undef, undef, undef, undef, undef, undef, undef, .bool true, .bool true, .bool true])) (Below.refl _ _).drew (fun i v w' w'' hS hf => hS i v hf) lwW (fun _ _ _ h => h) (fun _ _ h => h) ?grd ?nno ?oo ?fin
            case grd =>
              intro i oo d bb hi hg v w' hf
              obtain ⟨hlt1, rfl⟩ := Array.getElem?_eq_some_iff.1 hi
              have hlt' : i < 37 := hlt1
              clear hi
              obtain rfl | rfl | rfl | rfl | rfl | rfl | rfl | rfl | rfl | rfl | rfl | rfl | rfl | rfl | rfl | rfl | rfl | rfl | rfl | rfl | rfl | rfl | rfl | rfl | rfl | rfl | rfl | rfl | rfl | rfl | rfl | rfl | rfl | rfl | rfl | rfl | rfl : i = 0 ∨ i = 1 ∨ i = 2 ∨ i = 3 ∨ i = 4 ∨ i = 5 ∨ i = 6 ∨ i = 7 ∨ i = 8 ∨ i = 9 ∨ i = 10 ∨ i = 11 ∨ i = 12 ∨ i = 13 ∨ i = 14 ∨ i = 15 ∨ i = 16 ∨ i = 17 ∨ i = 18 ∨ i = 19 ∨ i = 20 ∨ i = 21 ∨ i = 22 ∨ i = 23 ∨ i = 24 ∨ i = 25 ∨ i = 26 ∨ i = 27 ∨ i = 28 ∨ i = 29 ∨ i = 30 ∨ i = 31 ∨ i = 32 ∨ i = 33 ∨ i = 34 ∨ i = 35 ∨ i = 36 := by omega
              · exact absurd hg (by simp)
              · exact absurd hg (by simp)
              · exact absurd hg (by simp)
              · exact absurd hg (by simp)
              · exact absurd hg (by simp)
              · obtain ⟨rfl, rfl⟩ : 4 = d ∧ true = bb := by simpa using hg
                obtain rfl : v = .bool true := hf
                rw [if_pos (by decide)]
              · obtain ⟨rfl, rfl⟩ : 4 = d ∧ true = bb := by simpa using hg
                obtain rfl : v = .bool true := hf
                rw [if_pos (by decide)]
              · obtain ⟨rfl, rfl⟩ : 4 = d ∧ true = bb := by simpa using hg
                obtain rfl : v = .bool true := hf
                rw [if_pos (by decide)]
              · obtain ⟨rfl, rfl⟩ : 4 = d ∧ true = bb := by simpa using hg
                obtain rfl : v = .bool true := hf
                rw [if_pos (by decide)]
              · exact absurd hg (by simp)
              · exact absurd hg (by simp)
              · obtain ⟨rfl, rfl⟩ : 10 = d ∧ true = bb := by simpa using hg
                obtain rfl : v = .bool true := hf
                rw [if_pos (by decide)]
              · obtain ⟨rfl, rfl⟩ : 10 = d ∧ true = bb := by simpa using hg
                obtain rfl : v = .bool true := hf
                rw [if_pos (by decide)]
              · obtain ⟨rfl, rfl⟩ : 10 = d ∧ true = bb := by simpa using hg
                obtain rfl : v = .bool true := hf
                rw [if_pos (by decide)]
              · obtain ⟨rfl, rfl⟩ : 10 = d ∧ true = bb := by simpa using hg
                obtain rfl : v = .bool true := hf
                rw [if_pos (by decide)]
              · obtain ⟨rfl, rfl⟩ : 10 = d ∧ true = bb := by simpa using hg
                obtain rfl : v = .bool true := hf
                rw [if_pos (by decide)]
              · obtain ⟨rfl, rfl⟩ : 10 = d ∧ true = bb := by simpa using hg
                obtain rfl : v = .bool true := hf
                rw [if_pos (by decide)]
              · obtain ⟨rfl, rfl⟩ : 10 = d ∧ true = bb := by simpa using hg
                obtain rfl : v = .bool true := hf
                rw [if_pos (by decide)]
              · exact absurd hg (by simp)
              · exact absurd hg (by simp)
              · obtain ⟨rfl, rfl⟩ : 19 = d ∧ true = bb := by simpa using hg
                obtain rfl : v = .bool true := hf
                rw [if_pos (by decide)]
              · obtain ⟨rfl, rfl⟩ : 19 = d ∧ true = bb := by simpa using hg
                obtain rfl : v = .bool true := hf
                rw [if_pos (by decide)]
              · obtain ⟨rfl, rfl⟩ : 19 = d ∧ true = bb := by simpa using hg
                obtain rfl : v = .bool true := hf
                rw [if_pos (by decide)]
              · obtain ⟨rfl, rfl⟩ : 19 = d ∧ true = bb := by simpa using hg
                obtain rfl : v = .bool true := hf
                rw [if_pos (by decide)]
              · obtain ⟨rfl, rfl⟩ : 19 = d ∧ true = bb := by simpa using hg
                obtain rfl : v = .bool true := hf
                rw [if_pos (by decide)]
              · obtain ⟨rfl, rfl⟩ : 24 = d ∧ false = bb := by simpa using hg
                obtain rfl : v = .bool true := hf
                rw [if_neg (by decide)]; simp
              · obtain ⟨rfl, rfl⟩ : 24 = d ∧ false = bb := by simpa using hg
                obtain rfl : v = .bool true := hf
                rw [if_neg (by decide)]; simp
              · obtain ⟨rfl, rfl⟩ : 24 = d ∧ false = bb := by simpa using hg
                obtain rfl : v = .bool true := hf
                rw [if_neg (by decide)]; simp
              · obtain ⟨rfl, rfl⟩ : 24 = d ∧ false = bb := by simpa using hg
                obtain rfl : v = .bool true := hf
                rw [if_neg (by decide)]; simp
              · obtain ⟨rfl, rfl⟩ : 24 = d ∧ false = bb := by simpa using hg
                obtain rfl : v = .bool true := hf
                rw [if_neg (by decide)]; simp
              · obtain ⟨rfl, rfl⟩ : 24 = d ∧ false = bb := by simpa using hg
                obtain rfl : v = .bool true := hf
                rw [if_neg (by decide)]; simp
              · obtain ⟨rfl, rfl⟩ : 24 = d ∧ false = bb := by simpa using hg
                obtain rfl : v = .bool true := hf
                rw [if_neg (by decide)]; simp
              · obtain ⟨rfl, rfl⟩ : 24 = d ∧ false = bb := by simpa using hg
                obtain rfl : v = .bool true := hf
                rw [if_neg (by decide)]; simp
              · obtain ⟨rfl, rfl⟩ : 24 = d ∧ false = bb := by simpa using hg
                obtain rfl : v = .bool true := hf
                rw [if_neg (by decide)]; simp
              · obtain ⟨rfl, rfl⟩ : 19 = d ∧ true = bb := by simpa using hg
                obtain rfl : v = .bool true := hf
                rw [if_pos (by decide)]
              · exact absurd hg (by simp)
              · exact absurd hg (by simp)
            case nno =>
              intro i oo hi hwb
              obtain ⟨hlt1, rfl⟩ := Array.getElem?_eq_some_iff.1 hi
              have hlt' : i < 37 := hlt1
              clear hi
              obtain rfl | rfl | rfl | rfl | rfl | rfl | rfl | rfl | rfl | rfl | rfl | rfl | rfl | rfl | rfl | rfl | rfl | rfl | rfl | rfl | rfl | rfl | rfl | rfl | rfl | rfl | rfl | rfl | rfl | rfl | rfl | rfl | rfl | rfl | rfl | rfl | rfl : i = 0 ∨ i = 1 ∨ i = 2 ∨ i = 3 ∨ i = 4 ∨ i = 5 ∨ i = 6 ∨ i = 7 ∨ i = 8 ∨ i = 9 ∨ i = 10 ∨ i = 11 ∨ i = 12 ∨ i = 13 ∨ i = 14 ∨ i = 15 ∨ i = 16 ∨ i = 17 ∨ i = 18 ∨ i = 19 ∨ i = 20 ∨ i = 21 ∨ i = 22 ∨ i = 23 ∨ i = 24 ∨ i = 25 ∨ i = 26 ∨ i = 27 ∨ i = 28 ∨ i = 29 ∨ i = 30 ∨ i = 31 ∨ i = 32 ∨ i = 33 ∨ i = 34 ∨ i = 35 ∨ i = 36 := by omega
              · exact absurd hwb (by decide)
              · exact absurd hwb (by decide)
              · exact absurd hwb (by decide)
              · exact absurd hwb (by decide)
              · exact absurd hwb (by decide)
              · exact absurd hwb (by decide)
              · exact absurd hwb (by decide)
              · exact absurd hwb (by decide)
              · exact absurd hwb (by decide)
              · exact absurd hwb (by decide)
              · exact absurd hwb (by decide)
              · exact absurd hwb (by decide)
              · exact absurd hwb (by decide)
              · exact absurd hwb (by decide)
              · exact absurd hwb (by decide)
              · exact absurd hwb (by decide)
              · exact absurd hwb (by decide)
              · exact absurd hwb (by decide)
              · exact absurd hwb (by decide)
              · exact absurd hwb (by decide)
              · exact absurd hwb (by decide)
              · exact absurd hwb (by decide)
              · exact absurd hwb (by decide)
              · exact absurd hwb (by decide)
              · exact absurd hwb (by decide)
              · exact ⟨⟨_, _, rfl⟩, rfl, fun _ => rfl⟩
              · exact ⟨⟨_, _, rfl⟩, rfl, fun _ => rfl⟩
              · exact ⟨⟨_, _, rfl⟩, rfl, fun _ => rfl⟩
              · exact ⟨⟨_, _, rfl⟩, rfl, fun _ => rfl⟩
              · exact ⟨⟨_, _, rfl⟩, rfl, fun _ => rfl⟩
              · exact ⟨⟨_, _, rfl⟩, rfl, fun _ => rfl⟩
              · exact ⟨⟨_, _, rfl⟩, rfl, fun _ => rfl⟩
              · exact ⟨⟨_, _, rfl⟩, rfl, fun _ => rfl⟩
              · exact ⟨⟨_, _, rfl⟩, rfl, fun _ => rfl⟩
              · exact absurd hwb (by decide)
              · exact absurd hwb (by decide)
              · exact absurd hwb (by decide)
            case oo =>
              intro i oo hi hwb qn a' wk hnn hj hb' hd
              obtain ⟨hlt1, rfl⟩ := Array.getElem?_eq_some_iff.1 hi
              have hlt' : i < 37 := hlt1
              clear hi
              obtain rfl | rfl | rfl | rfl | rfl | rfl | rfl | rfl | rfl | rfl | rfl | rfl | rfl | rfl | rfl | rfl | rfl | rfl | rfl | rfl | rfl | rfl | rfl | rfl | rfl | rfl | rfl | rfl | rfl | rfl | rfl | rfl | rfl | rfl | rfl | rfl | rfl : i = 0 ∨ i = 1 ∨ i = 2 ∨ i = 3 ∨ i = 4 ∨ i = 5 ∨ i = 6 ∨ i = 7 ∨ i = 8 ∨ i = 9 ∨ i = 10 ∨ i = 11 ∨ i = 12 ∨ i = 13 ∨ i = 14 ∨ i = 15 ∨ i = 16 ∨ i = 17 ∨ i = 18 ∨ i = 19 ∨ i = 20 ∨ i = 21 ∨ i = 22 ∨ i = 23 ∨ i = 24 ∨ i = 25 ∨ i = 26 ∨ i = 27 ∨ i = 28 ∨ i = 29 ∨ i = 30 ∨ i = 31 ∨ i = 32 ∨ i = 33 ∨ i = 34 ∨ i = 35 ∨ i = 36 := by omega
              · have b5 : a'.eval (.tmp 5) = .int .i64 k := hb' 5 (by rfl); have c5 := ev_get b5
                exact iv_val (v := .int .i64 k) (by simp [execOp, b5]) ⟨_, rfl, hj, (fun _ _ h => h), rfl⟩
              · have b4 : a'.eval (.tmp 4) = .slice sa m sc := hb' 4 (by rfl); have c4 := ev_get b4
                exact iv_val (v := .slice sa m sc) (by simp [execOp, b4]) ⟨_, rfl, hj, (fun _ _ h => h), rfl⟩
              · have v1 : a'.eval (.tmp 56) = .slice sa m sc := hd ⟨1, .data⟩ (by simp) rfl; have u1 := ev_get v1
                exact iv_val (v := .int .i64 m) (by simp [execOp, u1, go_sem, Result.andThen]) ⟨_, rfl, hj, (fun _ _ h => h), rfl⟩
              · have v0 : a'.eval (.tmp 55) = .int .i64 k := hd ⟨0, .data⟩ (by simp) rfl; have u0 := ev_get v0
                have v2 : a'.eval (.tmp 57) = .int .i64 m := hd ⟨2, .data⟩ (by simp) rfl; have u2 := ev_get v2
                have hkm : (k : Int) ≤ m := hkmi
                exact iv_val (v := .bool true) (by simp [execOp, u0, u2, hkm, go_sem]) ⟨_, rfl, hj, (fun _ _ h => h), rfl⟩
              · have v3 : a'.eval (.tmp 58) = .bool true := hd ⟨3, .data⟩ (by simp) rfl; have u3 := ev_get v3
                exact iv_val (v := .bool true) (by simp [execOp, v3]) ⟨_, rfl, hj, (fun _ _ h => h), rfl⟩
              · have b5 : a'.eval (.tmp 5) = .int .i64 k := hb' 5 (by rfl); have c5 := ev_get b5
                exact iv_val (v := .int .i64 k) (by simp [execOp, b5]) ⟨_, rfl, hj, (fun _ _ h => h), rfl⟩
              · have b6 : a'.eval (.tmp 6) = .slice (some ⟨rb, ro, none⟩) n rc := hb' 6 (by rfl); have c6 := ev_get b6
                exact iv_val (v := .slice (some ⟨rb, ro, none⟩) n rc) (by simp [execOp, b6]) ⟨_, rfl, hj, (fun _ _ h => h), rfl⟩
              · have v6 : a'.eval (.tmp 61) = .slice (some ⟨rb, ro, none⟩) n rc := hd ⟨6, .data⟩ (by simp) rfl; have u6 := ev_get v6
                exact iv_val (v := .int .i64 n) (by simp [execOp, u6, go_sem, Result.andThen]) ⟨_, rfl, hj, (fun _ _ h => h), rfl⟩
              · have v5 : a'.eval (.tmp 60) = .int .i64 k := hd ⟨5, .data⟩ (by simp) rfl; have u5 := ev_get v5
                have v7 : a'.eval (.tmp 62) = .int .i64 n := hd ⟨7, .data⟩ (by simp) rfl; have u7 := ev_get v7
                have hkr : (k : Int) < n := hkri
                exact iv_val (v := .bool true) (by simp [execOp, u5, u7, hkr, go_sem]) ⟨_, rfl, hj, (fun _ _ h => h), rfl⟩
              · have v4 : a'.eval (.tmp 59) = .bool true := hd ⟨4, .data⟩ (by simp) rfl; have u4 := ev_get v4
                have v8 : a'.eval (.tmp 63) = .bool true := hd ⟨8, .data⟩ (by simp) rfl; have u8 := ev_get v8
                exact iv_val (v := .bool true) (by simp [execOp, u4, u8, go_sem]) ⟨_, rfl, hj, (fun _ _ h => h), rfl⟩
              · have v9 : a'.eval (.tmp 64) = .bool true := hd ⟨9, .data⟩ (by simp) rfl; have u9 := ev_get v9
                exact iv_val (v := .bool true) (by simp [execOp, v9]) ⟨_, rfl, hj, (fun _ _ h => h), rfl⟩
              · have b4 : a'.eval (.tmp 4) = .slice sa m sc := hb' 4 (by rfl); have c4 := ev_get b4
                exact iv_val (v := .slice sa m sc) (by simp [execOp, b4]) ⟨_, rfl, hj, (fun _ _ h => h), rfl⟩
              · have b5 : a'.eval (.tmp 5) = .int .i64 k := hb' 5 (by rfl); have c5 := ev_get b5
                exact iv_val (v := .int .i64 k) (by simp [execOp, b5]) ⟨_, rfl, hj, (fun _ _ h => h), rfl⟩
              · have v11 : a'.eval (.tmp 66) = .slice sa m sc := hd ⟨11, .data⟩ (by simp) rfl; have u11 := ev_get v11
                have v12 : a'.eval (.tmp 67) = .int .i64 k := hd ⟨12, .data⟩ (by simp) rfl; have u12 := ev_get v12
                exact iv_val (v := .slice sa k sc) (by simp [execOp, u11, u12, hcap1, go_sem, Result.andThen]) ⟨_, rfl, hj, (fun _ _ h => h), rfl⟩
              · have b6 : a'.eval (.tmp 6) = .slice (some ⟨rb, ro, none⟩) n rc := hb' 6 (by rfl); have c6 := ev_get b6
                exact iv_val (v := .slice (some ⟨rb, ro, none⟩) n rc) (by simp [execOp, b6]) ⟨_, rfl, hj, (fun _ _ h => h), rfl⟩
              · have b5 : a'.eval (.tmp 5) = .int .i64 k := hb' 5 (by rfl); have c5 := ev_get b5
                exact iv_val (v := .int .i64 k) (by simp [execOp, b5]) ⟨_, rfl, hj, (fun _ _ h => h), rfl⟩
              · have v14 : a'.eval (.tmp 69) = .slice (some ⟨rb, ro, none⟩) n rc := hd ⟨14, .data⟩ (by simp) rfl; have u14 := ev_get v14
                have v15 : a'.eval (.tmp 70) = .int .i64 k := hd ⟨15, .data⟩ (by simp) rfl; have u15 := ev_get v15
                exact iv_val (v := .slice (some ⟨rb, ro, none⟩) k rc) (by simp [execOp, u14, u15, hcap2, go_sem, Result.andThen]) ⟨_, rfl, hj, (fun _ _ h => h), rfl⟩
              · have v13 : a'.eval (.tmp 68) = .slice sa k sc := hd ⟨13, .data⟩ (by simp) rfl; have u13 := ev_get v13
                have v16 : a'.eval (.tmp 71) = .slice (some ⟨rb, ro, none⟩) k rc := hd ⟨16, .data⟩ (by simp) rfl; have u16 := ev_get v16
                refine iv_enter (f := 32) (args := #[.slice sa k sc, .slice (some ⟨rb, ro, none⟩) k rc]) (by simp [execOp, u13, u16, go_sem]) ?_
                refine (laws_sameInts_b' _ _ (ss.take k) _ _ wk (Rd.on hsk hj) (Rd.on hrk hj)).mono ?_
                rintro e w5 ⟨rfl, b5⟩
                exact ⟨_, rfl, _, rfl, hj.trans (b5.mono hj.size), (fun i v h => fact_gr lwF_gr i v _ _ b5 h), rfl⟩
              · have v10 : a'.eval (.tmp 65) = .bool true := hd ⟨10, .data⟩ (by simp) rfl; have u10 := ev_get v10
                have v17 : a'.eval (.tmp 72) = .bool true := hd ⟨17, .data⟩ (by simp) rfl; have u17 := ev_get v17
                exact iv_val (v := .bool true) (by simp [execOp, u10, u17, go_sem]) ⟨_, rfl, hj, (fun _ _ h => h), rfl⟩
              · have v18 : a'.eval (.tmp 73) = .bool true := hd ⟨18, .data⟩ (by simp) rfl; have u18 := ev_get v18
                exact iv_val (v := .bool true) (by simp [execOp, v18]) ⟨_, rfl, hj, (fun _ _ h => h), rfl⟩
              · have b5 : a'.eval (.tmp 5) = .int .i64 k := hb' 5 (by rfl); have c5 := ev_get b5
                exact iv_val (v := .int .i64 k) (by simp [execOp, b5]) ⟨_, rfl, hj, (fun _ _ h => h), rfl⟩
              · have b4 : a'.eval (.tmp 4) = .slice sa m sc := hb' 4 (by rfl); have c4 := ev_get b4
                exact iv_val (v := .slice sa m sc) (by simp [execOp, b4]) ⟨_, rfl, hj, (fun _ _ h => h), rfl⟩
              · have v21 : a'.eval (.tmp 76) = .slice sa m sc := hd ⟨21, .data⟩ (by simp) rfl; have u21 := ev_get v21
                exact iv_val (v := .int .i64 m) (by simp [execOp, u21, go_sem, Result.andThen]) ⟨_, rfl, hj, (fun _ _ h => h), rfl⟩
              · have v20 : a'.eval (.tmp 75) = .int .i64 k := hd ⟨20, .data⟩ (by simp) rfl; have u20 := ev_get v20
                have v22 : a'.eval (.tmp 77) = .int .i64 m := hd ⟨22, .data⟩ (by simp) rfl; have u22 := ev_get v22
                exact iv_val (v := .bool true) (by simp [execOp, u20, u22, heq, go_sem]) ⟨_, rfl, hj, (fun _ _ h => h), rfl⟩
              · have v23 : a'.eval (.tmp 78) = .bool true := hd ⟨23, .data⟩ (by simp) rfl; have u23 := ev_get v23
                exact iv_val (v := .bool true) (by simp [execOp, v23]) ⟨_, rfl, hj, (fun _ _ h => h), rfl⟩
              · exact absurd hwb (by decide)
              · exact absurd hwb (by decide)
              · exact absurd hwb (by decide)
              · exact absurd hwb (by decide)
              · exact absurd hwb (by decide)
              · exact absurd hwb (by decide)
              · exact absurd hwb (by decide)
              · exact absurd hwb (by decide)
              · exact absurd hwb (by decide)
              · have v24 : a'.eval (.tmp 79) = .bool true := hd ⟨24, .data⟩ (by simp) rfl; have u24 := ev_get v24
                exact iv_val (v := .bool true) (by simp [execOp, u24, go_sem]) ⟨_, rfl, hj, (fun _ _ h => h), rfl⟩
              · have v19 : a'.eval (.tmp 74) = .bool true := hd ⟨19, .data⟩ (by simp) rfl; have u19 := ev_get v19
                have v34 : a'.eval (.tmp 89) = .bool true := hd ⟨34, .data⟩ (by simp) rfl; have u34 := ev_get v34
                exact iv_val (v := .bool true) (by simp [execOp, u19, u34, go_sem]) ⟨_, rfl, hj, (fun _ _ h => h), rfl⟩
              · have v35 : a'.eval (.tmp 90) = .bool true := hd ⟨35, .data⟩ (by simp) rfl; have u35 := ev_get v35
                exact iv_val (v := .bool true) (by simp [execOp, v35]) ⟨_, rfl, hj, (fun _ _ h => h), rfl⟩
            case fin =>
              intro tm w20 hj hF
              have q2 : tm.getD 2 undef = .bool true := hF 36 _ rfl
              clear hF
              simp only [refillL, List.setIfInBounds_toArray, List.set_cons_succ, List.set_cons_zero]
              rw [q2]
              go_wp2
              go_ret
              exact ⟨rfl, cw.trans (hj.mono cw.size)⟩
          · have hlt : k < m := by omega
            have heq : ((k : Int) == (m : Int)) = false := by simp; omega
            obtain ⟨sb, so, sy, rfl, hsb1, hsy1, hsyc⟩ := hsg k hlt
            have hsb : sb < wr.heap.size := by have := b14.size; omega
            have hsy := (b14.cell (p := ⟨sb, so + k, none⟩) hsb1).trans hsyc
            have hne : sy ≠ ry' := by rintro rfl; exact HSY.out hsy1.out
            have hneb : (sy != ry') = true := by simp [hne]
            have hin1 : (k : Int) < m := by omega
            have hin2 : (k : Int) < n := by omega
            clear hke hsg o4 s4 HX HN HM HR HRN HRY HSY HTK hry1 HQ hne hsyc hsy1
            go_wp2
            refine wp_region_inv3h rfl (by kernel_rfl) (by kernel_rfl) (by kernel_rfl) (by kernel_rfl) (by simp) (fun _ w' => Below wr.heap.size wr w') (fun w' w'' => ∀ i v, fact (lwF [.int .i64 k, .slice (some ⟨sb, so, none⟩) m sc, .int .i64 m, .bool true, .bool true, .int .i64 k, .slice (some ⟨rb, ro, none⟩) n rc, .int .i64 n, .bool true, .bool true, .bool true, .slice (some ⟨sb, so, none⟩) m sc, .int .i64 k, .slice (some ⟨sb, so, none⟩) k sc, .slice (some ⟨rb, ro, none⟩) n rc, .int .i64 k, .slice (some ⟨rb, ro, none⟩) k rc, .bool true, .bool true, .bool true, .int .i64 k, .slice (some ⟨sb, so, none⟩) m sc, .int .i64 m, .bool false, .bool false, .slice (some ⟨sb, so, none⟩) m sc, .int .i64 k, .pointer (some ⟨sb, so + k, none⟩), .int .i64 sy, .slice (some ⟨rb, ro, none⟩) n rc, .int .i64 k, .pointer (some ⟨rb, ro + k, none⟩), .int .i64 ry', .bool true, .bool true, .bool true, .bool true]) i v w' → fact (lwF [.int .i64 k, .slice (some ⟨sb, so, none⟩) m sc, .int .i64 m, .bool true, .bool true, .int .i64 k, .slice (some ⟨rb, ro, none⟩) n rc, .int .i64 n, .bool true, .bool true, .bool true, .slice (some ⟨sb, so, none⟩) m sc, .int .i64 k, .slice (some ⟨sb, so, none⟩) k sc, .slice (some ⟨rb, ro, none⟩) n rc, .int .i64 k, .slice (some ⟨rb, ro, none⟩) k rc, .bool true, .bool true, .bool true, .int .i64 k, .slice (some ⟨sb, so, none⟩) m sc, .int .i64 m, .bool false, .bool false, .slice (some ⟨sb, so, none⟩) m sc, .int .i64 k, .pointer (some ⟨sb, so + k, none⟩), .int .i64 sy, .slice (some ⟨rb, ro, none⟩) n rc, .int .i64 k, .pointer (some ⟨rb, ro + k, none⟩), .int .i64 ry', .bool true, .bool true, .bool true, .bool true]) i v w'') (fact (lwF [.int .i64 k, .slice (some ⟨sb, so, none⟩) m sc, .int .i64 m, .bool true, .bool true, .int .i64 k, .slice (some ⟨rb, ro, none⟩) n rc, .int .i64 n, .bool true, .bool true, .bool true, .slice (some ⟨sb, so, none⟩) m sc, .int .i64 k, .slice (some ⟨sb, so, none⟩) k sc, .slice (some ⟨rb, ro, none⟩) n rc, .int .i64 k, .slice (some ⟨rb, ro, none⟩) k rc, .bool true, .bool true, .bool true, .int .i64 k, .slice (some ⟨sb, so, none⟩) m sc, .int .i64 m, .bool false, .bool false, .slice (some ⟨sb, so, none⟩) m sc, .int .i64 k, .pointer (some ⟨sb, so + k, none⟩), .int .i64 sy, .slice (some ⟨rb, ro, none⟩) n rc, .int .i64 k, .pointer (some ⟨rb, ro + k, none⟩), .int .i64 ry', .bool true, .bool true, .bool true, .bool true])) (Below.refl _ _).drew (fun i v w' w'' hS hf => hS i v hf) lwA (fun _ _ _ h => h) (fun _ _ h => h) ?grd ?nno ?oo ?fin
            case grd =>
              intro i oo d bb hi hg v w' hf
              obtain ⟨hlt1, rfl⟩ := Array.getElem?_eq_some_iff.1 hi
              have hlt' : i < 37 := hlt1
              clear hi
              obtain rfl | rfl | rfl | rfl | rfl | rfl | rfl | rfl | rfl | rfl | rfl | rfl | rfl | rfl | rfl | rfl | rfl | rfl | rfl | rfl | rfl | rfl | rfl | rfl | rfl | rfl | rfl | rfl | rfl | rfl | rfl | rfl | rfl | rfl | rfl | rfl | rfl : i = 0 ∨ i = 1 ∨ i = 2 ∨ i = 3 ∨ i = 4 ∨ i = 5 ∨ i = 6 ∨ i = 7 ∨ i = 8 ∨ i = 9 ∨ i = 10 ∨ i = 11 ∨ i = 12 ∨ i = 13 ∨ i = 14 ∨ i = 15 ∨ i = 16 ∨ i = 17 ∨ i = 18 ∨ i = 19 ∨ i = 20 ∨ i = 21 ∨ i = 22 ∨ i = 23 ∨ i = 24 ∨ i = 25 ∨ i = 26 ∨ i = 27 ∨ i = 28 ∨ i = 29 ∨ i = 30 ∨ i = 31 ∨ i = 32 ∨ i = 33 ∨ i = 34 ∨ i = 35 ∨ i = 36 := by omega
              · exact absurd hg (by simp)
              · exact absurd hg (by simp)
              · exact absurd hg (by simp)
              · exact absurd hg (by simp)
              · exact absurd hg (by simp)
              · obtain ⟨rfl, rfl⟩ : 4 = d ∧ true = bb := by simpa using hg
                obtain rfl : v = .bool true := hf
                rw [if_pos (by decide)]
              · obtain ⟨rfl, rfl⟩ : 4 = d ∧ true = bb := by simpa using hg
                obtain rfl : v = .bool true := hf
                rw [if_pos (by decide)]
              · obtain ⟨rfl, rfl⟩ : 4 = d ∧ true = bb := by simpa using hg
                obtain rfl : v = .bool true := hf
                rw [if_pos (by decide)]
              · obtain ⟨rfl, rfl⟩ : 4 = d ∧ true = bb := by simpa using hg
                obtain rfl : v = .bool true := hf
                rw [if_pos (by decide)]
              · exact absurd hg (by simp)
              · exact absurd hg (by simp)
              · obtain ⟨rfl, rfl⟩ : 10 = d ∧ true = bb := by simpa using hg
                obtain rfl : v = .bool true := hf
                rw [if_pos (by decide)]
              · obtain ⟨rfl, rfl⟩ : 10 = d ∧ true = bb := by simpa using hg
                obtain rfl : v = .bool true := hf
                rw [if_pos (by decide)]
              · obtain ⟨rfl, rfl⟩ : 10 = d ∧ true = bb := by simpa using hg
                obtain rfl : v = .bool true := hf
                rw [if_pos (by decide)]
              · obtain ⟨rfl, rfl⟩ : 10 = d ∧ true = bb := by simpa using hg
                obtain rfl : v = .bool true := hf
                rw [if_pos (by decide)]
              · obtain ⟨rfl, rfl⟩ : 10 = d ∧ true = bb := by simpa using hg
                obtain rfl : v = .bool true := hf
                rw [if_pos (by decide)]
              · obtain ⟨rfl, rfl⟩ : 10 = d ∧ true = bb := by simpa using hg
                obtain rfl : v = .bool true := hf
                rw [if_pos (by decide)]
              · obtain ⟨rfl, rfl⟩ : 10 = d ∧ true = bb := by simpa using hg
                obtain rfl : v = .bool true := hf
                rw [if_pos (by decide)]
              · exact absurd hg (by simp)
              · exact absurd hg (by simp)
              · obtain ⟨rfl, rfl⟩ : 19 = d ∧ true = bb := by simpa using hg
                obtain rfl : v = .bool true := hf
                rw [if_pos (by decide)]
              · obtain ⟨rfl, rfl⟩ : 19 = d ∧ true = bb := by simpa using hg
                obtain rfl : v = .bool true := hf
                rw [if_pos (by decide)]
              · obtain ⟨rfl, rfl⟩ : 19 = d ∧ true = bb := by simpa using hg
                obtain rfl : v = .bool true := hf
                rw [if_pos (by decide)]
              · obtain ⟨rfl, rfl⟩ : 19 = d ∧ true = bb := by simpa using hg
                obtain rfl : v = .bool true := hf
                rw [if_pos (by decide)]
              · obtain ⟨rfl, rfl⟩ : 19 = d ∧ true = bb := by simpa using hg
                obtain rfl : v = .bool true := hf
                rw [if_pos (by decide)]
              · obtain ⟨rfl, rfl⟩ : 24 = d ∧ false = bb := by simpa using hg
                obtain rfl : v = .bool false := hf
                rw [if_pos (by decide)]
              · obtain ⟨rfl, rfl⟩ : 24 = d ∧ false = bb := by simpa using hg
                obtain rfl : v = .bool false := hf
                rw [if_pos (by decide)]
              · obtain ⟨rfl, rfl⟩ : 24 = d ∧ false = bb := by simpa using hg
                obtain rfl : v = .bool false := hf
                rw [if_pos (by decide)]
              · obtain ⟨rfl, rfl⟩ : 24 = d ∧ false = bb := by simpa using hg
                obtain rfl : v = .bool false := hf
                rw [if_pos (by decide)]
              · obtain ⟨rfl, rfl⟩ : 24 = d ∧ false = bb := by simpa using hg
                obtain rfl : v = .bool false := hf
                rw [if_pos (by decide)]
              · obtain ⟨rfl, rfl⟩ : 24 = d ∧ false = bb := by simpa using hg
                obtain rfl : v = .bool false := hf
                rw [if_pos (by decide)]
              · obtain ⟨rfl, rfl⟩ : 24 = d ∧ false = bb := by simpa using hg
                obtain rfl : v = .bool false := hf
                rw [if_pos (by decide)]
              · obtain ⟨rfl, rfl⟩ : 24 = d ∧ false = bb := by simpa using hg
                obtain rfl : v = .bool false := hf
                rw [if_pos (by decide)]
              · obtain ⟨rfl, rfl⟩ : 24 = d ∧ false = bb := by simpa using hg
                obtain rfl : v = .bool false := hf
                rw [if_pos (by decide)]
              · obtain ⟨rfl, rfl⟩ : 19 = d ∧ true = bb := by simpa using hg
                obtain rfl : v = .bool true := hf
                rw [if_pos (by decide)]
              · exact absurd hg (by simp)
              · exact absurd hg (by simp)
            case nno =>
              intro i oo hi hwb
              obtain ⟨hlt1, rfl⟩ := Array.getElem?_eq_some_iff.1 hi
              have hlt' : i < 37 := hlt1
              clear hi
              obtain rfl | rfl | rfl | rfl | rfl | rfl | rfl | rfl | rfl | rfl | rfl | rfl | rfl | rfl | rfl | rfl | rfl | rfl | rfl | rfl | rfl | rfl | rfl | rfl | rfl | rfl | rfl | rfl | rfl | rfl | rfl | rfl | rfl | rfl | rfl | rfl | rfl : i = 0 ∨ i = 1 ∨ i = 2 ∨ i = 3 ∨ i = 4 ∨ i = 5 ∨ i = 6 ∨ i = 7 ∨ i = 8 ∨ i = 9 ∨ i = 10 ∨ i = 11 ∨ i = 12 ∨ i = 13 ∨ i = 14 ∨ i = 15 ∨ i = 16 ∨ i = 17 ∨ i = 18 ∨ i = 19 ∨ i = 20 ∨ i = 21 ∨ i = 22 ∨ i = 23 ∨ i = 24 ∨ i = 25 ∨ i = 26 ∨ i = 27 ∨ i = 28 ∨ i = 29 ∨ i = 30 ∨ i = 31 ∨ i = 32 ∨ i = 33 ∨ i = 34 ∨ i = 35 ∨ i = 36 := by omega
              · exact absurd hwb (by decide)
              · exact absurd hwb (by decide)
              · exact absurd hwb (by decide)
              · exact absurd hwb (by decide)
              · exact absurd hwb (by decide)
              · exact absurd hwb (by decide)
              · exact absurd hwb (by decide)
              · exact absurd hwb (by decide)
              · exact absurd hwb (by decide)
              · exact absurd hwb (by decide)
              · exact absurd hwb (by decide)
              · exact absurd hwb (by decide)
              · exact absurd hwb (by decide)
              · exact absurd hwb (by decide)
              · exact absurd hwb (by decide)
              · exact absurd hwb (by decide)
              · exact absurd hwb (by decide)
              · exact absurd hwb (by decide)
              · exact absurd hwb (by decide)
              · exact absurd hwb (by decide)
              · exact absurd hwb (by decide)
              · exact absurd hwb (by decide)
              · exact absurd hwb (by decide)
              · exact absurd hwb (by decide)
              · exact absurd hwb (by decide)
              · exact absurd hwb (by decide)
              · exact absurd hwb (by decide)
              · exact absurd hwb (by decide)
              · exact absurd hwb (by decide)
              · exact absurd hwb (by decide)
              · exact absurd hwb (by decide)
              · exact absurd hwb (by decide)
              · exact absurd hwb (by decide)
              · exact absurd hwb (by decide)
              · exact absurd hwb (by decide)
              · exact absurd hwb (by decide)
              · exact absurd hwb (by decide)
            case oo =>
              intro i oo hi hwb qn a' wk hnn hj hb' hd
              obtain ⟨hlt1, rfl⟩ := Array.getElem?_eq_some_iff.1 hi
              have hlt' : i < 37 := hlt1
              clear hi
              obtain rfl | rfl | rfl | rfl | rfl | rfl | rfl | rfl | rfl | rfl | rfl | rfl | rfl | rfl | rfl | rfl | rfl | rfl | rfl | rfl | rfl | rfl | rfl | rfl | rfl | rfl | rfl | rfl | rfl | rfl | rfl | rfl | rfl | rfl | rfl | rfl | rfl : i = 0 ∨ i = 1 ∨ i = 2 ∨ i = 3 ∨ i = 4 ∨ i = 5 ∨ i = 6 ∨ i = 7 ∨ i = 8 ∨ i = 9 ∨ i = 10 ∨ i = 11 ∨ i = 12 ∨ i = 13 ∨ i = 14 ∨ i = 15 ∨ i = 16 ∨ i = 17 ∨ i = 18 ∨ i = 19 ∨ i = 20 ∨ i = 21 ∨ i = 22 ∨ i = 23 ∨ i = 24 ∨ i = 25 ∨ i = 26 ∨ i = 27 ∨ i = 28 ∨ i = 29 ∨ i = 30 ∨ i = 31 ∨ i = 32 ∨ i = 33 ∨ i = 34 ∨ i = 35 ∨ i = 36 := by omega
              · have b5 : a'.eval (.tmp 5) = .int .i64 k := hb' 5 (by rfl); have c5 := ev_get b5
                exact iv_val (v := .int .i64 k) (by simp [execOp, b5]) ⟨_, rfl, hj, (fun _ _ h => h), rfl⟩
              · have b4 : a'.eval (.tmp 4) = .slice (some ⟨sb, so, none⟩) m sc := hb' 4 (by rfl); have c4 := ev_get b4
                exact iv_val (v := .slice (some ⟨sb, so, none⟩) m sc) (by simp [execOp, b4]) ⟨_, rfl, hj, (fun _ _ h => h), rfl⟩
              · have v1 : a'.eval (.tmp 56) = .slice (some ⟨sb, so, none⟩) m sc := hd ⟨1, .data⟩ (by simp) rfl; have u1 := ev_get v1
                exact iv_val (v := .int .i64 m) (by simp [execOp, u1, go_sem, Result.andThen]) ⟨_, rfl, hj, (fun _ _ h => h), rfl⟩
              · have v0 : a'.eval (.tmp 55) = .int .i64 k := hd ⟨0, .data⟩ (by simp) rfl; have u0 := ev_get v0
                have v2 : a'.eval (.tmp 57) = .int .i64 m := hd ⟨2, .data⟩ (by simp) rfl; have u2 := ev_get v2
                have hkm : (k : Int) ≤ m := hkmi
                exact iv_val (v := .bool true) (by simp [execOp, u0, u2, hkm, go_sem]) ⟨_, rfl, hj, (fun _ _ h => h), rfl⟩
              · have v3 : a'.eval (.tmp 58) = .bool true := hd ⟨3, .data⟩ (by simp) rfl; have u3 := ev_get v3
                exact iv_val (v := .bool true) (by simp [execOp, v3]) ⟨_, rfl, hj, (fun _ _ h => h), rfl⟩
              · have b5 : a'.eval (.tmp 5) = .int .i64 k := hb' 5 (by rfl); have c5 := ev_get b5
                exact iv_val (v := .int .i64 k) (by simp [execOp, b5]) ⟨_, rfl, hj, (fun _ _ h => h), rfl⟩
              · have b6 : a'.eval (.tmp 6) = .slice (some ⟨rb, ro, none⟩) n rc := hb' 6 (by rfl); have c6 := ev_get b6
                exact iv_val (v := .slice (some ⟨rb, ro, none⟩) n rc) (by simp [execOp, b6]) ⟨_, rfl, hj, (fun _ _ h => h), rfl⟩
              · have v6 : a'.eval (.tmp 61) = .slice (some ⟨rb, ro, none⟩) n rc := hd ⟨6, .data⟩ (by simp) rfl; have u6 := ev_get v6
                exact iv_val (v := .int .i64 n) (by simp [execOp, u6, go_sem, Result.andThen]) ⟨_, rfl, hj, (fun _ _ h => h), rfl⟩
              · have v5 : a'.eval (.tmp 60) = .int .i64 k := hd ⟨5, .data⟩ (by simp) rfl; have u5 := ev_get v5
                have v7 : a'.eval (.tmp 62) = .int .i64 n := hd ⟨7, .data⟩ (by simp) rfl; have u7 := ev_get v7
                have hkr : (k : Int) < n := hkri
                exact iv_val (v := .bool true) (by simp [execOp, u5, u7, hkr, go_sem]) ⟨_, rfl, hj, (fun _ _ h => h), rfl⟩
              · have v4 : a'.eval (.tmp 59) = .bool true := hd ⟨4, .data⟩ (by simp) rfl; have u4 := ev_get v4
                have v8 : a'.eval (.tmp 63) = .bool true := hd ⟨8, .data⟩ (by simp) rfl; have u8 := ev_get v8
                exact iv_val (v := .bool true) (by simp [execOp, u4, u8, go_sem]) ⟨_, rfl, hj, (fun _ _ h => h), rfl⟩
              · have v9 : a'.eval (.tmp 64) = .bool true := hd ⟨9, .data⟩ (by simp) rfl; have u9 := ev_get v9
                exact iv_val (v := .bool true) (by simp [execOp, v9]) ⟨_, rfl, hj, (fun _ _ h => h), rfl⟩
              · have b4 : a'.eval (.tmp 4) = .slice (some ⟨sb, so, none⟩) m sc := hb' 4 (by rfl); have c4 := ev_get b4
                exact iv_val (v := .slice (some ⟨sb, so, none⟩) m sc) (by simp [execOp, b4]) ⟨_, rfl, hj, (fun _ _ h => h), rfl⟩
              · have b5 : a'.eval (.tmp 5) = .int .i64 k := hb' 5 (by rfl); have c5 := ev_get b5
                exact iv_val (v := .int .i64 k) (by simp [execOp, b5]) ⟨_, rfl, hj, (fun _ _ h => h), rfl⟩
              · have v11 : a'.eval (.tmp 66) = .slice (some ⟨sb, so, none⟩) m sc := hd ⟨11, .data⟩ (by simp) rfl; have u11 := ev_get v11
                have v12 : a'.eval (.tmp 67) = .int .i64 k := hd ⟨12, .data⟩ (by simp) rfl; have u12 := ev_get v12
                exact iv_val (v := .slice (some ⟨sb, so, none⟩) k sc) (by simp [execOp, u11, u12, hcap1, go_sem, Result.andThen]) ⟨_, rfl, hj, (fun _ _ h => h), rfl⟩
              · have b6 : a'.eval (.tmp 6) = .slice (some ⟨rb, ro, none⟩) n rc := hb' 6 (by rfl); have c6 := ev_get b6
                exact iv_val (v := .slice (some ⟨rb, ro, none⟩) n rc) (by simp [execOp, b6]) ⟨_, rfl, hj, (fun _ _ h => h), rfl⟩
              · have b5 : a'.eval (.tmp 5) = .int .i64 k := hb' 5 (by rfl); have c5 := ev_get b5
                exact iv_val (v := .int .i64 k) (by simp [execOp, b5]) ⟨_, rfl, hj, (fun _ _ h => h), rfl⟩
              · have v14 : a'.eval (.tmp 69) = .slice (some ⟨rb, ro, none⟩) n rc := hd ⟨14, .data⟩ (by simp) rfl; have u14 := ev_get v14
                have v15 : a'.eval (.tmp 70) = .int .i64 k := hd ⟨15, .data⟩ (by simp) rfl; have u15 := ev_get v15
                exact iv_val (v := .slice (some ⟨rb, ro, none⟩) k rc) (by simp [execOp, u14, u15, hcap2, go_sem, Result.andThen]) ⟨_, rfl, hj, (fun _ _ h => h), rfl⟩
              · have v13 : a'.eval (.tmp 68) = .slice (some ⟨sb, so, none⟩) k sc := hd ⟨13, .data⟩ (by simp) rfl; have u13 := ev_get v13
                have v16 : a'.eval (.tmp 71) = .slice (some ⟨rb, ro, none⟩) k rc := hd ⟨16, .data⟩ (by simp) rfl; have u16 := ev_get v16
                refine iv_enter (f := 32) (args := #[.slice (some ⟨sb, so, none⟩) k sc, .slice (some ⟨rb, ro, none⟩) k rc]) (by simp [execOp, u13, u16, go_sem]) ?_
                refine (laws_sameInts_b' _ _ (ss.take k) _ _ wk (Rd.on hsk hj) (Rd.on hrk hj)).mono ?_
                rintro e w5 ⟨rfl, b5⟩
                exact ⟨_, rfl, _, rfl, hj.trans (b5.mono hj.size), (fun i v h => fact_gr lwF_gr i v _ _ b5 h), rfl⟩
              · have v10 : a'.eval (.tmp 65) = .bool true := hd ⟨10, .data⟩ (by simp) rfl; have u10 := ev_get v10
                have v17 : a'.eval (.tmp 72) = .bool true := hd ⟨17, .data⟩ (by simp) rfl; have u17 := ev_get v17
                exact iv_val (v := .bool true) (by simp [execOp, u10, u17, go_sem]) ⟨_, rfl, hj, (fun _ _ h => h), rfl⟩
              · have v18 : a'.eval (.tmp 73) = .bool true := hd ⟨18, .data⟩ (by simp) rfl; have u18 := ev_get v18
                exact iv_val (v := .bool true) (by simp [execOp, v18]) ⟨_, rfl, hj, (fun _ _ h => h), rfl⟩
              · have b5 : a'.eval (.tmp 5) = .int .i64 k := hb' 5 (by rfl); have c5 := ev_get b5
                exact iv_val (v := .int .i64 k) (by simp [execOp, b5]) ⟨_, rfl, hj, (fun _ _ h => h), rfl⟩
              · have b4 : a'.eval (.tmp 4) = .slice (some ⟨sb, so, none⟩) m sc := hb' 4 (by rfl); have c4 := ev_get b4
                exact iv_val (v := .slice (some ⟨sb, so, none⟩) m sc) (by simp [execOp, b4]) ⟨_, rfl, hj, (fun _ _ h => h), rfl⟩
              · have v21 : a'.eval (.tmp 76) = .slice (some ⟨sb, so, none⟩) m sc := hd ⟨21, .data⟩ (by simp) rfl; have u21 := ev_get v21
                exact iv_val (v := .int .i64 m) (by simp [execOp, u21, go_sem, Result.andThen]) ⟨_, rfl, hj, (fun _ _ h => h), rfl⟩
              · have v20 : a'.eval (.tmp 75) = .int .i64 k := hd ⟨20, .data⟩ (by simp) rfl; have u20 := ev_get v20
                have v22 : a'.eval (.tmp 77) = .int .i64 m := hd ⟨22, .data⟩ (by simp) rfl; have u22 := ev_get v22
                exact iv_val (v := .bool false) (by simp [execOp, u20, u22, heq, go_sem]) ⟨_, rfl, hj, (fun _ _ h => h), rfl⟩
              · have v23 : a'.eval (.tmp 78) = .bool false := hd ⟨23, .data⟩ (by simp) rfl; have u23 := ev_get v23
                exact iv_val (v := .bool false) (by simp [execOp, v23]) ⟨_, rfl, hj, (fun _ _ h => h), rfl⟩
              · have b4 : a'.eval (.tmp 4) = .slice (some ⟨sb, so, none⟩) m sc := hb' 4 (by rfl); have c4 := ev_get b4
                exact iv_val (v := .slice (some ⟨sb, so, none⟩) m sc) (by simp [execOp, b4]) ⟨_, rfl, hj, (fun _ _ h => h), rfl⟩
              · have b5 : a'.eval (.tmp 5) = .int .i64 k := hb' 5 (by rfl); have c5 := ev_get b5
                exact iv_val (v := .int .i64 k) (by simp [execOp, b5]) ⟨_, rfl, hj, (fun _ _ h => h), rfl⟩
              · have v25 : a'.eval (.tmp 80) = .slice (some ⟨sb, so, none⟩) m sc := hd ⟨25, .data⟩ (by simp) rfl; have u25 := ev_get v25
                have v26 : a'.eval (.tmp 81) = .int .i64 k := hd ⟨26, .data⟩ (by simp) rfl; have u26 := ev_get v26
                exact iv_val (v := .pointer (some ⟨sb, so + k, none⟩)) (by simp [execOp, u25, u26, hin1, go_sem, Result.andThen]) ⟨_, rfl, hj, (fun _ _ h => h), rfl⟩
              · have v27 : a'.eval (.tmp 82) = .pointer (some ⟨sb, so + k, none⟩) := hd ⟨27, .data⟩ (by simp) rfl; have u27 := ev_get v27
                have kk := (hj.cell (p := ⟨sb, so + k, none⟩) hsb).trans hsy
                exact iv_val (v := .int .i64 sy) (by simp [execOp, u27, kk, go_sem, Result.andThen]) ⟨_, rfl, hj, (fun _ _ h => h), rfl⟩
              · have b6 : a'.eval (.tmp 6) = .slice (some ⟨rb, ro, none⟩) n rc := hb' 6 (by rfl); have c6 := ev_get b6
                exact iv_val (v := .slice (some ⟨rb, ro, none⟩) n rc) (by simp [execOp, b6]) ⟨_, rfl, hj, (fun _ _ h => h), rfl⟩
              · have b5 : a'.eval (.tmp 5) = .int .i64 k := hb' 5 (by rfl); have c5 := ev_get b5
                exact iv_val (v := .int .i64 k) (by simp [execOp, b5]) ⟨_, rfl, hj, (fun _ _ h => h), rfl⟩
              · have v29 : a'.eval (.tmp 84) = .slice (some ⟨rb, ro, none⟩) n rc := hd ⟨29, .data⟩ (by simp) rfl; have u29 := ev_get v29
                have v30 : a'.eval (.tmp 85) = .int .i64 k := hd ⟨30, .data⟩ (by simp) rfl; have u30 := ev_get v30
                exact iv_val (v := .pointer (some ⟨rb, ro + k, none⟩)) (by simp [execOp, u29, u30, hin2, go_sem, Result.andThen]) ⟨_, rfl, hj, (fun _ _ h => h), rfl⟩
              · have v31 : a'.eval (.tmp 86) = .pointer (some ⟨rb, ro + k, none⟩) := hd ⟨31, .data⟩ (by simp) rfl; have u31 := ev_get v31
                have kk := (hj.cell (p := ⟨rb, ro + k, none⟩) hrb).trans hry
                exact iv_val (v := .int .i64 ry') (by simp [execOp, u31, kk, go_sem, Result.andThen]) ⟨_, rfl, hj, (fun _ _ h => h), rfl⟩
              · have v28 : a'.eval (.tmp 83) = .int .i64 sy := hd ⟨28, .data⟩ (by simp) rfl; have u28 := ev_get v28
                have v32 : a'.eval (.tmp 87) = .int .i64 ry' := hd ⟨32, .data⟩ (by simp) rfl; have u32 := ev_get v32
                exact iv_val (v := .bool true) (by simp [execOp, u28, u32, hneb, go_sem]) ⟨_, rfl, hj, (fun _ _ h => h), rfl⟩
              · have v24 : a'.eval (.tmp 79) = .bool false := hd ⟨24, .data⟩ (by simp) rfl; have u24 := ev_get v24
                have v33 : a'.eval (.tmp 88) = .bool true := hd ⟨33, .data⟩ (by simp) rfl; have u33 := ev_get v33
                exact iv_val (v := .bool true) (by simp [execOp, u24, u33, go_sem]) ⟨_, rfl, hj, (fun _ _ h => h), rfl⟩
              · have v19 : a'.eval (.tmp 74) = .bool true := hd ⟨19, .data⟩ (by simp) rfl; have u19 := ev_get v19
                have v34 : a'.eval (.tmp 89) = .bool true := hd ⟨34, .data⟩ (by simp) rfl; have u34 := ev_get v34
                exact iv_val (v := .bool true) (by simp [execOp, u19, u34, go_sem]) ⟨_, rfl, hj, (fun _ _ h => h), rfl⟩
              · have v35 : a'.eval (.tmp 90) = .bool true := hd ⟨35, .data⟩ (by simp) rfl; have u35 := ev_get v35
                exact iv_val (v := .bool true) (by simp [execOp, v35]) ⟨_, rfl, hj, (fun _ _ h => h), rfl⟩
            case fin =>
              intro tm w20 hj hF
              have q2 : tm.getD 2 undef = .bool true := hF 36 _ rfl
              clear hF
              simp only [refillL, List.setIfInBounds_toArray, List.set_cons_succ, List.set_cons_zero]
              rw [q2]
              go_wp2
              go_ret
              exact ⟨rfl, cw.trans (hj.mono cw.size)⟩

end Go.Proofs.Ytnedkfmbeeodfaa
