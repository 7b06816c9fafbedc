/- Walks: the text of a mark. -/
import Derived.Test.YtkfkcbceoekgjaaDoorDrawT
namespace Go.Proofs.YtkfkcbceoekgjaaDoor
open Go.RowKit

def digs : Nat → Nat → ByteArray → ByteArray
  | 0, _, out => out
  | f + 1, k, out => if k = 0 then out else digs f (k / 10) (⟨#[UInt8.ofNat (48 + k % 10)]⟩ ++ out)
def markT (k : Int) : ByteArray := if k ≤ 0 then ⟨#[109, 48]⟩ else ⟨#[109]⟩ ++ digs 18 k.toNat ⟨#[]⟩
theorem digs_zero : ∀ (f : Nat) (out : ByteArray), digs f 0 out = out
  | 0, _ => rfl
  | f + 1, out => by simp [digs]
theorem digs_step {f k : Nat} (h : 0 < k) (out : ByteArray) : digs (f + 1) k out = digs f (k / 10) (⟨#[UInt8.ofNat (48 + k % 10)]⟩ ++ out) := by
  rw [digs, if_neg (by omega)]
theorem digs_size : ∀ (f k : Nat) (out : ByteArray), (digs f k out).size ≤ out.size + f
  | 0, k, out => by simp [digs]
  | f + 1, k, out => by
    rw [digs]
    split
    · omega
    · have := digs_size f (k / 10) (⟨#[UInt8.ofNat (48 + k % 10)]⟩ ++ out)
      rw [ByteArray.size_append] at this
      have e : (⟨#[UInt8.ofNat (48 + k % 10)]⟩ : ByteArray).size = 1 := rfl
      omega
theorem markT_size (k : Int) : (markT k).size ≤ 20 := by
  unfold markT
  split
  · decide
  · rw [ByteArray.size_append]
    have := digs_size 18 k.toNat ⟨#[]⟩
    have e : (⟨#[109]⟩ : ByteArray).size = 1 := rfl
    have e2 : (⟨#[]⟩ : ByteArray).size = 0 := rfl
    omega

theorem run_conv1 (W : World) (b : Nat) (x : Nat) (hx : x < 256) (h : W.heap[b]? = some (.cells #[.int .u8 x] 5 (0, 0))) : (convert 64 9 (.slice (some ⟨b, 0, none⟩) 1 1)).run Tryd.prog W = .ok (.string ⟨#[UInt8.ofNat x]⟩) W := by
  have := run_convert_bytes_back (P := Tryd.prog) W 64 9 5 ⟨b, 0, none⟩ 1 [UInt8.ofNat x] Tryd.underlying64 Tryd.underlying5 Tryd.underlying9 (fun j hj => by
    have hj' : j = 0 := by simpa using hj
    subst hj'
    have hadd : (⟨b, 0, none⟩ : Addr).add 0 = ⟨b, 0, none⟩ := by unfold Addr.add; split <;> simp_all
    rw [hadd]
    simp [World.cell?, h, Nat.mod_eq_of_lt hx])
  simpa using this

set_option maxHeartbeats 2000000 in
theorem laws_markText_c (k : Int) (w : World) (hk : k ≤ 100000000000000000) :
    Calls Tryd.prog 31 #[.int .i64 k] w fun e w' => e = .returned (.string (markT k)) ∧ Below w.heap.size w w' := by
  by_cases h0 : k ≤ 0
  · have HO := hid (show markT k = ⟨#[109, 48]⟩ by unfold markT; rw [if_pos h0])
    go_enter Tryd.func31, Tryd.ntmps31
    go_wp2
    go_ret
    exact ⟨by rw [HO.out]; rfl, Below.refl _ _⟩
  · obtain ⟨n, rfl⟩ : ∃ n : Nat, k = n := ⟨k.toNat, by omega⟩
    have HO := hid (show markT n = ⟨#[109]⟩ ++ digs 18 n ⟨#[]⟩ by unfold markT; rw [if_neg h0]; simp)
    go_enter Tryd.func31, Tryd.ntmps31
    go_wp2
    go_loopw [0, 3] (fun kk out wr => ∃ (f j : Nat) (s : ByteArray), kk = .int .i64 j ∧ out = .string s ∧ j < 10 ^ f ∧ f ≤ 18 ∧ j ≤ 100000000000000000 ∧ s.size + f ≤ 18 ∧ Hid (digs f j s = digs 18 n ⟨#[]⟩) ∧ Below w.heap.size w wr) (fun kk _ _ => (intOf kk).toNat)
    case atStart => exact ⟨18, n, _, rfl, rfl, by omega, by omega, by omega, by decide, rfl, Below.refl _ _⟩
    case round =>
      obtain ⟨f, j, s, rfl, rfl, hjf, hf18, hj, hs, hd, hb⟩ := hrel
      by_cases hj0 : 0 < j
      · obtain ⟨g, rfl⟩ : ∃ g, f = g + 1 := by
          cases f with
          | zero => simp at hjf; omega
          | succ g => exact ⟨g, rfl⟩
        obtain ⟨q, hqn⟩ : ∃ q, j / 10 = q := ⟨_, rfl⟩
        obtain ⟨d, hdn⟩ : ∃ d, j % 10 = d := ⟨_, rfl⟩
        have hd9 : d < 10 := by omega
        obtain ⟨c8, hc8⟩ : ∃ c8 : UInt8, UInt8.ofNat (48 + d) = c8 := ⟨_, rfl⟩
        have hstep := hid (show digs g q (⟨#[c8]⟩ ++ s) = digs 18 n ⟨#[]⟩ by rw [← hc8, ← hqn, ← hdn]; exact (digs_step (f := g) hj0 s).symm.trans hd.out)
        have hal : Below w.heap.size w (wr.alloc (.cells #[.int .u8 (48 + (d : Int))] 5)) := hb.alloc hb.size _
        have m1 : (convert 64 9 (.slice (some ⟨wr.heap.size, 0, none⟩) 1 1)).run Tryd.prog (wr.alloc (.cells #[.int .u8 (48 + (d : Int))] 5)) = .ok (.string ⟨#[c8]⟩) (wr.alloc (.cells #[.int .u8 (48 + (d : Int))] 5)) := hc8 ▸ run_conv1 _ _ (48 + d) (by omega) (by rw [show ((48 + d : Nat) : Int) = 48 + (d : Int) by omega]; exact heap_alloc_new _ _)
        have hq : (j : Int) / 10 = q := by omega
        have hr : (j : Int) % 10 = d := by omega
        have hw8 : IntKind.u8.wrap (48 + (d : Int)) = 48 + (d : Int) := by rw [IntKind.wrap_u8]; omega
        have hg : q < 10 ^ g := by rw [Nat.pow_succ] at hjf; omega
        have hsz : (⟨#[c8]⟩ ++ s : ByteArray).size = s.size + 1 := by rw [ByteArray.size_append]; have e : (⟨#[c8]⟩ : ByteArray).size = 1 := rfl; omega
        have hone : (⟨#[c8]⟩ : ByteArray).size = 1 := rfl
        have HAL := hid hal
        have HSZ := hid hsz
        have HG := hid hg
        have hqj : q < j := by omega
        clear hal hsz hg hjf hd hqn hdn hc8
        go_wp2
        go_roundw
        case rel => exact ⟨g, q, _, rfl, rfl, HG.out, by omega, by omega, by rw [HSZ.out]; omega, hstep.out, HAL.out⟩
        case measure => simp [intOf]; omega
      · obtain rfl : j = 0 := by omega
        have hd' := hd.out
        rw [digs_zero] at hd'
        have HF := hid (show markT n = ⟨#[109]⟩ ++ s by rw [HO.out, hd'])
        have hs18 : s.size ≤ 18 := by omega
        have hone : (⟨#[109]⟩ : ByteArray).size = 1 := rfl
        clear hd' hd hjf
        go_wp2
        go_ret
        exact ⟨by rw [HF.out]; rfl, hb⟩

end Go.Proofs.YtkfkcbceoekgjaaDoor
