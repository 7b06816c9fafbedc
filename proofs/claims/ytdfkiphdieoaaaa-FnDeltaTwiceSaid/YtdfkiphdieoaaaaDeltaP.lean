/- Plain laws of deltas. No program in sight. -/
import Derived.Test.YtdfkiphdieoaaaaDeltaL
namespace Go.Proofs.Ytdfkiphdieoaaaa
open Go.RowKit

theorem bs_ext {a b : ByteArray} (h : bs a = bs b) : a = b := by
  cases a; cases b
  simp only [bs, Array.toList_inj] at h
  rw [h]
theorem bs_append (a b : ByteArray) : bs (a ++ b) = bs a ++ bs b := by simp [bs]
theorem bs_extract (a : ByteArray) (i j : Nat) : bs (a.extract i j) = ((bs a).drop i).take (j - i) := by simp [bs]
theorem rev_take_eq {α : Type} {x y : List α} {t : Nat} (h : x.reverse.take t = y.reverse.take t) : x.drop (x.length - t) = y.drop (y.length - t) := by
  rw [List.take_reverse, List.take_reverse, List.reverse_inj] at h
  exact h

theorem dText_delta (a b : ByteArray) : dText a (dHead a b) (dTail a b) (dPut a b) = b := by
  apply bs_ext
  have h1 := dHead_le a b
  have h2 := dTail_le a b
  have hh : (bs a).take (dHead a b) = (bs b).take (dHead a b) := lcp_take _ _
  have ht := lcp_take ((bs a).drop (dHead a b)).reverse ((bs b).drop (dHead a b)).reverse
  change List.take (dTail a b) _ = List.take (dTail a b) _ at ht
  have ht' := rev_take_eq ht
  rw [List.length_drop, List.length_drop, bs_len, bs_len, List.drop_drop, List.drop_drop, show dHead a b + (a.size - dHead a b - dTail a b) = a.size - dTail a b by omega, show dHead a b + (b.size - dHead a b - dTail a b) = b.size - dTail a b by omega] at ht'
  unfold dText dPut
  rw [bs_append, bs_append, bs_extract, bs_extract, bs_extract]
  generalize dHead a b = h at *
  generalize dTail a b = t at *
  rw [show ((a.size : Int) - (t : Int)).toNat = a.size - t by omega, Int.toNat_natCast, List.drop_zero, Nat.sub_zero, hh]
  have e3 : ((bs a).drop (a.size - t)).take (a.size - (a.size - t)) = (bs b).drop (b.size - t) := by
    rw [List.take_of_length_le (by rw [List.length_drop, bs_len]; omega), ht']
  rw [e3]
  have e4 : ((bs b).drop h).take (b.size - t - h) ++ (bs b).drop (b.size - t) = (bs b).drop h := by
    have := List.take_append_drop (b.size - t - h) ((bs b).drop h)
    rw [List.drop_drop, show h + (b.size - t - h) = b.size - t by omega] at this
    exact this
  rw [List.append_assoc, e4, List.take_append_drop]

theorem applyOk_delta {a b : ByteArray} (ha : textOk (bs a) = true) (hb : textOk (bs b) = true) : applyOk a (dHead a b) (dTail a b) (dPut a b) = true := by
  have h1 := dHead_le a b
  have h2 := dTail_le a b
  unfold applyOk
  rw [dText_delta, ha, hb]
  simp only [dFits, Bool.true_and, Bool.and_true, Bool.and_eq_true]
  exact ⟨inB_iff.2 ⟨by omega, by omega⟩, inB_iff.2 ⟨by omega, by omega⟩⟩

/-- Where a delta that fits and its turned one come together. -/
theorem turn_back {a p : ByteArray} {h t : Int} (hok : applyOk a h t p = true) : applyOk (dText a h t p) h t (turnPut a h t) = true ∧ dText (dText a h t p) h t (turnPut a h t) = a ∧ turnPut (dText a h t p) h t = p := by
  obtain ⟨h60, h0, t0, hsum, hta, htd⟩ := applyOk_in hok
  obtain ⟨m, rfl⟩ : ∃ n : Nat, h = n := ⟨h.toNat, by omega⟩
  obtain ⟨k, rfl⟩ : ∃ n : Nat, t = n := ⟨t.toNat, by omega⟩
  have hsz := dText_size a p m k (by omega)
  have q1 : ((bs a).drop (a.size - k)).take (a.size - (a.size - k)) = (bs a).drop (a.size - k) := List.take_of_length_le (by rw [List.length_drop, bs_len]; omega)
  have hb : bs (dText a m k p) = (bs a).take m ++ bs p ++ (bs a).drop (a.size - k) := by
    unfold dText
    rw [bs_append, bs_append, bs_extract, bs_extract, show ((a.size : Int) - (k : Int)).toNat = a.size - k by omega, Int.toNat_natCast, List.drop_zero, Nat.sub_zero, q1]
  have l1 : ((bs a).take m).length = m := by rw [List.length_take, bs_len]; omega
  have hp : turnPut (dText a m k p) m k = p := by
    apply bs_ext
    unfold turnPut
    rw [bs_extract, hb, show (((dText a m k p).size : Int) - (k : Int)).toNat = m + p.size by omega, Int.toNat_natCast, List.append_assoc, List.drop_append_of_le_length (by omega), List.drop_of_length_le (by omega), List.nil_append, List.take_append_of_le_length (by rw [bs_len]; omega), List.take_of_length_le (by rw [bs_len]; omega)]
  have q2 : ((bs a).drop (a.size - k)).take ((dText a m k p).size - (m + p.size)) = (bs a).drop (a.size - k) := List.take_of_length_le (by rw [List.length_drop, bs_len]; omega)
  have hd : dText (dText a m k p) m k (turnPut a m k) = a := by
    apply bs_ext
    unfold dText
    have e1 : (bs (dText a m k p)).take m = (bs a).take m := by
      rw [hb, List.append_assoc, List.take_append_of_le_length (by omega), List.take_of_length_le (by omega)]
    have e2 : (bs (dText a m k p)).drop (m + p.size) = (bs a).drop (a.size - k) := by
      have l2 : ((bs a).take m ++ bs p).length = m + p.size := by rw [List.length_append, l1, bs_len]
      rw [hb, List.drop_append_of_le_length (by omega), List.drop_of_length_le (by omega), List.nil_append]
    have hfold : (dText a m k p) = (a.extract 0 (m : Int).toNat ++ p ++ a.extract ((a.size : Int) - (k : Int)).toNat a.size) := rfl
    rw [← hfold, bs_append, bs_append, bs_extract, bs_extract, show (((dText a m k p).size : Int) - (k : Int)).toNat = m + p.size by omega, Int.toNat_natCast, List.drop_zero, Nat.sub_zero, e1, e2]
    unfold turnPut
    rw [bs_extract, show ((a.size : Int) - (k : Int)).toNat = a.size - k by omega, Int.toNat_natCast, q2]
    have := List.take_append_drop (a.size - k - m) ((bs a).drop m)
    rw [List.drop_drop, show m + (a.size - k - m) = a.size - k by omega] at this
    rw [List.append_assoc, this, List.take_append_drop]
  refine ⟨?_, hd, hp⟩
  unfold applyOk
  rw [hd, hta, htd]
  simp only [dFits, Bool.true_and, Bool.and_true, Bool.and_eq_true]
  exact ⟨inB_iff.2 ⟨by omega, by omega⟩, inB_iff.2 ⟨by omega, by omega⟩⟩

/-- The parts of the text. -/
theorem dText_parts (a p : ByteArray) (m k : Nat) (h : m + k ≤ a.size) : (dText a m k p).extract 0 m = a.extract 0 m ∧ (dText a m k p).extract ((dText a m k p).size - k) (dText a m k p).size = a.extract (a.size - k) a.size ∧ (dText a m k p).extract m ((dText a m k p).size - k) = p := by
  have hsz := dText_size a p m k h
  have q1 : ((bs a).drop (a.size - k)).take (a.size - (a.size - k)) = (bs a).drop (a.size - k) := List.take_of_length_le (by rw [List.length_drop, bs_len]; omega)
  have hb : bs (dText a m k p) = (bs a).take m ++ bs p ++ (bs a).drop (a.size - k) := by
    unfold dText
    rw [bs_append, bs_append, bs_extract, bs_extract, show ((a.size : Int) - (k : Int)).toNat = a.size - k by omega, Int.toNat_natCast, List.drop_zero, Nat.sub_zero, q1]
  have l1 : ((bs a).take m).length = m := by rw [List.length_take, bs_len]; omega
  have l2 : ((bs a).take m ++ bs p).length = m + p.size := by rw [List.length_append, l1, bs_len]
  have l3 : ((bs a).drop (a.size - k)).length = k := by rw [List.length_drop, bs_len]; omega
  refine ⟨bs_ext ?_, bs_ext ?_, bs_ext ?_⟩
  · rw [bs_extract, bs_extract, List.drop_zero, List.drop_zero, Nat.sub_zero, hb, List.append_assoc, List.take_append_of_le_length (by omega), List.take_of_length_le (by omega)]
  · rw [bs_extract, bs_extract, q1, hb, show (dText a m k p).size - k = m + p.size by omega, List.drop_append_of_le_length (by omega), List.drop_of_length_le (by omega), List.nil_append, List.take_of_length_le (by omega)]
  · rw [bs_extract, hb, show (dText a m k p).size - k - m = p.size by omega, List.append_assoc, List.drop_append_of_le_length (by omega), List.drop_of_length_le (by omega), List.nil_append, List.take_append_of_le_length (by rw [bs_len]; omega), List.take_of_length_le (by rw [bs_len]; omega)]

end Go.Proofs.Ytdfkiphdieoaaaa
