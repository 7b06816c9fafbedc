/- Walks and plain facts, joined: WriteP, Cut, Fold, Same, Put. -/
import Derived.Test.YtachfmlfmpaddaaGreatDoorMg5
import Derived.Test.YtachfmlfmpaddaaGreatDoorMg7
import Derived.Test.YtachfmlfmpaddaaGreatDoorMg8
import Derived.Test.YtachfmlfmpaddaaGreatDoorMg10
import Derived.Test.YtachfmlfmpaddaaGreatDoorMg11
import Derived.Lib.Bytealg
import Derived.Laws.Externs
set_option linter.unusedVariables false
set_option linter.unusedSimpArgs false

/- Plain facts on files, folders and paths that are written. No program in sight. -/
namespace Go.Proofs.YtachfmlfmpaddaaGreatDoor
open Go.RowKit

def contOk (l : List UInt8) : Bool := textOk l && decide (l.length ≤ 40)
def fileText (l : List UInt8) : List UInt8 := if contOk l then 102 :: l else []
def isFile (l : List UInt8) : Bool := match l with | [] => false | c :: r => decide (c = 102) && contOk r
noncomputable def kindOf (l : List UInt8) : Int := if isFile l then 1 else if (readFolder l).isSome then 2 else 0

/-! ### Entries -/
/-- How many entries have a smaller name, from the first on. -/
def entAt (l : List Ent) (nm : ByteArray) : Nat := (l.takeWhile fun x => ltN x.name nm).length
def isNm (l : List Ent) (nm : ByteArray) (k : Nat) : Bool := match l[k]? with | some x => decide (x.name = nm) | none => false
def putE (l : List Ent) (e : Ent) : List Ent := (l.take (entAt l e.name) ++ [e]) ++ (if isNm l e.name (entAt l e.name) then l.drop (entAt l e.name + 1) else l.drop (entAt l e.name))
def putEnt (l : List Ent) (e : Ent) : List Ent × Bool := if entsOk l then (if entsOk (putE l e) then (putE l e, true) else (l, false)) else ([], false)
def dropE (l : List Ent) (nm : ByteArray) : List Ent := l.filter fun x => !decide (x.name = nm)
def dropEnt (l : List Ent) (nm : ByteArray) : List Ent × Bool := if entsOk l then (dropE l nm, decide ((dropE l nm).length < l.length)) else ([], false)
/-- The print that a name has last; -1 for none. -/
def childOf (l : List Ent) (nm : ByteArray) : Int := l.foldl (fun c e => if e.name = nm then e.print else c) (-1)
/-- The print that a name has first. -/
def firstOf (l : List Ent) (nm : ByteArray) : Option Int := (l.find? fun e => decide (e.name = nm)).map (·.print)
theorem tw_all {α : Type} (p : α → Bool) : ∀ (l : List α) (x : α), x ∈ l.takeWhile p → p x = true
  | [], x, h => by simp at h
  | a :: r, x, h => by
    rw [List.takeWhile_cons] at h
    split at h
    · rename_i ha
      rcases List.mem_cons.1 h with rfl | h
      · exact ha
      · exact tw_all p r x h
    · simp at h
theorem entAt_le (l : List Ent) (nm : ByteArray) : entAt l nm ≤ l.length := by
  unfold entAt
  have := (List.takeWhile_sublist (fun x : Ent => ltN x.name nm) (l := l)).length_le
  exact this
theorem entAt_below {l : List Ent} {nm : ByteArray} {j : Nat} {x : Ent} (hj : j < entAt l nm) (h : l[j]? = some x) : ltN x.name nm = true := by
  unfold entAt at hj
  have h1 : (l.takeWhile fun x => ltN x.name nm)[j]? = some x := by
    have := List.takeWhile_prefix (fun x : Ent => ltN x.name nm) (l := l)
    obtain ⟨t, ht⟩ := this
    rw [← ht] at h
    rw [List.getElem?_append_left hj] at h
    exact h
  exact tw_all _ l x (List.mem_of_getElem? h1)
theorem entAt_stop {l : List Ent} {nm : ByteArray} {k : Nat} (hk : k ≤ l.length) (h1 : ∀ j x, j < k → l[j]? = some x → ltN x.name nm = true) (h2 : ∀ x, l[k]? = some x → ltN x.name nm = false) : entAt l nm = k := by
  unfold entAt
  exact takeWhile_len _ l k hk h1 h2
theorem putE_len (l : List Ent) (e : Ent) : (putE l e).length ≤ l.length + 1 := by
  have := entAt_le l e.name
  unfold putE
  split <;> simp <;> omega
theorem dropE_len (l : List Ent) (nm : ByteArray) : (dropE l nm).length ≤ l.length := List.length_filter_le _ _

/-! ### Paths -/
def splitStep (out : List (List UInt8)) (c : UInt8) : List (List UInt8) := if c = 47 then out ++ [[]] else if out = [] then [] else out.dropLast ++ [(out.getLastD []) ++ [c]]
def splitP (l : List UInt8) : List (List UInt8) := l.foldl splitStep []
def joinP (ws : List (List UInt8)) : List UInt8 := if ws = [] then [47] else if ws.length ≤ 3 ∧ ws.all wordOk = true then ws.flatMap (fun x => 47 :: x) else []
def pathParts (l : List UInt8) : Option (List (List UInt8)) := if l = [47] then some [] else if l ≠ [] ∧ joinP (splitP l) = l then some (splitP l) else none
theorem pathParts_in {l : List UInt8} {ws : List (List UInt8)} (h : pathParts l = some ws) : ws.length ≤ 3 ∧ (∀ x ∈ ws, wordOk x = true) ∧ joinP ws = l := by
  unfold pathParts at h
  split at h
  · rename_i h1
    obtain rfl := Option.some.inj h
    exact ⟨by simp, by simp, by rw [h1]; rfl⟩
  · split at h
    · rename_i h1 h2
      obtain rfl := Option.some.inj h
      obtain ⟨h3, h4⟩ := h2
      have h5 := h4
      unfold joinP at h4
      split at h4
      · rename_i h6
        rw [h6] at h5
        exact absurd h5.symm h1
      · split at h4
        · rename_i h7
          exact ⟨h7.1, fun x hx => List.all_eq_true.1 h7.2 x hx, h5⟩
        · exact absurd h4.symm h3
    · cases h

/-! ### Stores -/
noncomputable def textAt (l : List Pc) (pr : Int) : List UInt8 := bs ((getP l pr).getD ByteArray.empty)
noncomputable def badLeaf (l : List Pc) (ch : Int) : Bool := !hasP l ch || decide (kindOf (textAt l ch) ≠ 1)
noncomputable def setAt : List Pc → Int → List ByteArray → Int → List Pc × Int × Bool
  | s, _, [], leaf => (s, leaf, true)
  | s, pr, nm :: rest, leaf =>
    match (if 0 ≤ pr then readFolder (textAt s pr) else some []) with
    | none => (s, -1, false)
    | some es =>
      if rest = [] ∧ 0 ≤ childOf es nm ∧ badLeaf s (childOf es nm) = true then (s, -1, false)
      else if (setAt s (childOf es nm) rest leaf).2.2 = false then ((setAt s (childOf es nm) rest leaf).1, -1, false)
      else if (putEnt es ⟨nm, (setAt s (childOf es nm) rest leaf).2.1⟩).2 = false then ((setAt s (childOf es nm) rest leaf).1, -1, false)
      else putS (setAt s (childOf es nm) rest leaf).1 (strL (folderText (putEnt es ⟨nm, (setAt s (childOf es nm) rest leaf).2.1⟩).1))
/-- A folder's entries without a name, or with another print for it. -/
def leftE (es : List Ent) (nm : ByteArray) (left : Int) : List Ent := if 0 ≤ left then (putEnt es ⟨nm, left⟩).1 else (dropEnt es nm).1
def dropEnd (t : List Pc) (es : List Ent) : List Pc × Int × Bool := if es = [] then (t, -1, true) else putS t (strL (folderText es))
noncomputable def dropIn : List Pc → Int → List ByteArray → List Pc × Int × Bool
  | s, _, [] => (s, -1, false)
  | s, pr, nm :: rest =>
    if childOf (entsOf (textAt s pr)) nm < 0 then (s, -1, false)
    else if rest = [] then dropEnd s (leftE (entsOf (textAt s pr)) nm (-1))
    else if (dropIn s (childOf (entsOf (textAt s pr)) nm) rest).2.2 = false then (s, -1, false)
    else dropEnd (dropIn s (childOf (entsOf (textAt s pr)) nm) rest).1 (leftE (entsOf (textAt s pr)) nm (dropIn s (childOf (entsOf (textAt s pr)) nm) rest).2.1)
noncomputable def walkAt : List Pc → Int → List ByteArray → Int × Bool
  | s, pr, [] => if hasP s pr then (pr, true) else (-1, false)
  | s, pr, nm :: rest => match firstOf (entsOf (textAt s pr)) nm with | some ch => walkAt s ch rest | none => (-1, false)
noncomputable def emptyRoot (s : List Pc) : List Pc × Int × Bool := putS s (strL (folderText []))
noncomputable def writeAt (s : List Pc) (root : Int) (path content : List UInt8) : List Pc × Int × Bool :=
  match pathParts path with
  | none => ([], -1, false)
  | some ws =>
    if storeOk s = false ∨ ws = [] ∨ contOk content = false then ([], -1, false)
    else if hasP s root = false then (s, root, false)
    else if (setAt s root (ws.map strL) (printOf (fileText content))).2.2 = false then (s, root, false)
    else if (putS (setAt s root (ws.map strL) (printOf (fileText content))).1 (strL (fileText content))).2.2 = false then (s, root, false)
    else ((putS (setAt s root (ws.map strL) (printOf (fileText content))).1 (strL (fileText content))).1, (setAt s root (ws.map strL) (printOf (fileText content))).2.1, true)
noncomputable def dropTo (s : List Pc) (root : Int) (ws : List ByteArray) : List Pc × Int × Bool :=
  if (dropIn s root ws).2.2 = true ∧ (dropIn s root ws).2.1 < 0 then emptyRoot (dropIn s root ws).1 else dropIn s root ws
noncomputable def dropAt (s : List Pc) (root : Int) (path : List UInt8) : List Pc × Int × Bool :=
  match pathParts path with
  | none => ([], -1, false)
  | some ws =>
    if storeOk s = false ∨ ws = [] then ([], -1, false)
    else if (walkAt s root (ws.map strL)).2 = false then (s, root, false)
    else if (dropTo s root (ws.map strL)).2.2 = false then (s, root, false)
    else ((dropTo s root (ws.map strL)).1, (dropTo s root (ws.map strL)).2.1, true)

/-! ### What is put stays a store -/
theorem set_ok : ∀ (parts : List ByteArray) (s : List Pc) (pr leaf : Int), storeOk s = true → storeOk (setAt s pr parts leaf).1 = true
  | [], s, pr, leaf, h => h
  | nm :: rest, s, pr, leaf, h => by
    unfold setAt
    split
    · exact h
    · rename_i es _
      have ih := set_ok rest s (childOf es nm) leaf h
      split
      · exact h
      · split
        · exact ih
        · split
          · exact ih
          · exact put_ok ih
theorem dropEnd_ok {t : List Pc} (es : List Ent) (h : storeOk t = true) : storeOk (dropEnd t es).1 = true := by
  unfold dropEnd
  split
  · exact h
  · exact put_ok h
theorem dropIn_ok : ∀ (parts : List ByteArray) (s : List Pc) (pr : Int), storeOk s = true → storeOk (dropIn s pr parts).1 = true
  | [], s, pr, h => h
  | nm :: rest, s, pr, h => by
    unfold dropIn
    have ih := dropIn_ok rest s (childOf (entsOf (textAt s pr)) nm) h
    split
    · exact h
    · split
      · exact dropEnd_ok _ h
      · split
        · exact h
        · exact dropEnd_ok _ ih

end Go.Proofs.YtachfmlfmpaddaaGreatDoor

/- Walks: what Go's library cuts off a text at one byte. -/
namespace Go.Proofs.YtachfmlfmpaddaaGreatDoor
open Go.RowKit

theorem idx_none : ∀ {l : List UInt8} {c : UInt8}, c ∉ l → Go.Lib.indexByte l c = -1
  | [], c, _ => rfl
  | x :: r, c, h => by
    have h1 : ¬ x = c := fun e => h (by rw [e]; simp)
    have h2 := idx_none (l := r) (c := c) (fun e => h (List.mem_cons_of_mem _ e))
    simp [Go.Lib.indexByte, h1, h2]
theorem idx_some : ∀ {a r : List UInt8} {c : UInt8}, c ∉ a → Go.Lib.indexByte (a ++ c :: r) c = a.length
  | [], r, c, _ => by simp [Go.Lib.indexByte]
  | x :: a, r, c, h => by
    have h1 : ¬ x = c := fun e => h (by rw [e]; simp)
    have h2 := idx_some (a := a) (r := r) (c := c) (fun e => h (List.mem_cons_of_mem _ e))
    simp only [List.cons_append, Go.Lib.indexByte, h2]
    simp [h1]
/-- A list without a byte, or with it behind a part that has none of it. -/
theorem cut_ways (c : UInt8) : ∀ l : List UInt8, c ∉ l ∨ ∃ a r, l = a ++ c :: r ∧ c ∉ a
  | [] => .inl (by simp)
  | x :: l => by
    by_cases h : x = c
    · subst h; exact .inr ⟨[], l, rfl, by simp⟩
    · rcases cut_ways c l with h1 | ⟨a, r, e, h1⟩
      · exact .inl (by simp [Ne.symm h, h1])
      · exact .inr ⟨x :: a, r, by rw [e]; rfl, by simp [Ne.symm h, h1]⟩

set_option maxHeartbeats 400000 in
theorem IndexByte_c (s : ByteArray) (c : UInt8) (w : World) :
    Calls Tryz.prog 191 #[.string s, .int .u8 c.toNat] w fun e w' => e = .returned (.int .i64 (Go.Lib.indexByte (bs s) c)) ∧ w = w' := by
  have hx : (callFunc 203 #[.string s, .int .u8 (c.toNat : Int)]).run Tryz.prog w = .ok (.value (.int .i64 (Go.Lib.indexByte (bs s) c))) w := by
    rw [run_callFunc_extern Tryz.func203 (by kernel_rfl) (by kernel_rfl) (by kernel_rfl) (e := Extern.BytealgIndexByte.indexByte) (by kernel_rfl), Lib.run_indexByteString]
    have e1 : ((c.toNat : Int).toNat).toUInt8 = c := by simp
    rw [e1]
    rfl
  go_enter Tryz.func191, Tryz.ntmps191
  go_wp2_with (simp only [hx])
  go_ret
  exact ⟨rfl, rfl⟩

set_option maxHeartbeats 400000 in
theorem Index1_c (s : ByteArray) (c : UInt8) (w : World) :
    Calls Tryz.prog 179 #[.string s, .string (strL [c])] w fun e w' => e = .returned (.int .i64 (Go.Lib.indexByte (bs s) c)) ∧ w = w' := by
  have hsz : (strL [c]).size = 1 := strL_size _
  have hget : (strL [c])[0]'(by rw [hsz]; omega) = c := rfl
  cases heq : ((strL [c]).toList == s.toList)
  · go_enter Tryz.func179, Tryz.ntmps179
    go_wp2_with (go_at_call 191; refine (IndexByte_c s c _).mono ?_; rintro e w' ⟨rfl, rfl⟩)
    go_ret
    exact ⟨rfl, rfl⟩
  · have hs : [c] = bs s := by
      have := str_beq s [c]
      rw [heq] at this
      exact of_decide_eq_true this.symm
    have HI := hid (show Go.Lib.indexByte (bs s) c = 0 by rw [← hs]; exact idx_some (a := []) (r := []) (by simp))
    clear hs
    go_enter Tryz.func179, Tryz.ntmps179
    go_wp2
    go_ret
    exact ⟨ret_i HI.out.symm, rfl⟩

theorem ext_strL (s : ByteArray) (i j : Nat) : s.extract i j = strL (((bs s).take j).drop i) := by
  apply ByteArray.ext
  apply Array.ext'
  simp [strL, bs, List.drop_take]

set_option maxHeartbeats 400000 in
theorem Cut_no_c (s : ByteArray) (c : UInt8) (w : World) (h : c ∉ bs s) :
    Calls Tryz.prog 160 #[.string s, .string (strL [c])] w fun e w' => e = .returned (.tuple #[.string s, .string ByteArray.empty, .bool false]) ∧ ∃ q, w' = w.drewN q := by
  have HI := hid (idx_none h)
  clear h
  go_enter Tryz.func160, Tryz.ntmps160
  go_wp2_with fail
  refine (Index1_c s c _).mono ?_
  rw [HI.out]
  rintro e w' ⟨rfl, rfl⟩
  go_wp2
  go_ret3
  exact ⟨rfl, 0, rfl⟩

set_option maxHeartbeats 400000 in
theorem Cut_yes_c (s : ByteArray) (c : UInt8) (a r : List UInt8) (w : World) (h : bs s = a ++ c :: r) (hc : c ∉ a) (hs : s.size ≤ 1048576) :
    Calls Tryz.prog 160 #[.string s, .string (strL [c])] w fun e w' => e = .returned (.tuple #[.string (strL a), .string (strL r), .bool true]) ∧ ∃ q, w' = w.drewN q := by
  have HI := hid (show Go.Lib.indexByte (bs s) c = a.length by rw [h]; exact idx_some hc)
  have hl : s.size = a.length + (r.length + 1) := by rw [← bs_lenH, h]; simp
  have x1 : s.extract 0 a.length = strL a := by rw [ext_strL, h]; simp
  have x2 : s.extract (a.length + 1) s.size = strL r := by rw [ext_strL, ← bs_lenH, List.take_length, h]; simp [← List.drop_drop]
  have hsz : (strL [c]).size = 1 := strL_size _
  obtain ⟨k, hk⟩ : ∃ k, a.length = k := ⟨_, rfl⟩
  rw [hk] at HI hl x1 x2
  have hks : (k : Int) ≤ s.size := by omega
  have hks1 : (k : Int) + 1 ≤ s.size := by omega
  have HX := hid x2
  clear h hc hk hl
  go_enter Tryz.func160, Tryz.ntmps160
  go_wp2_with fail
  refine (Index1_c s c _).mono ?_
  rw [HI.out]
  rintro e w' ⟨rfl, rfl⟩
  go_wp2
  go_quiet (fail)
  go_wp2
  go_ret3
  exact ⟨by rw [← HX.out]; rfl, _, rfl⟩

set_option maxHeartbeats 400000 in
theorem strings_Cut_no_c (s : ByteArray) (c : UInt8) (w : World) (h : c ∉ bs s) :
    Calls Tryz.prog 130 #[.string s, .string (strL [c])] w fun e w' => e = .returned (.tuple #[.string s, .string ByteArray.empty, .bool false]) ∧ ∃ q, w' = w.drewN q := by
  go_enter Tryz.func130, Tryz.ntmps130
  go_wp2_with fail
  refine (Cut_no_c s c _ h).mono ?_
  rintro e w' ⟨rfl, q, rfl⟩
  go_wp2
  go_ret3
  exact ⟨rfl, q, rfl⟩

set_option maxHeartbeats 400000 in
theorem strings_Cut_yes_c (s : ByteArray) (c : UInt8) (a r : List UInt8) (w : World) (h : bs s = a ++ c :: r) (hc : c ∉ a) (hs : s.size ≤ 1048576) :
    Calls Tryz.prog 130 #[.string s, .string (strL [c])] w fun e w' => e = .returned (.tuple #[.string (strL a), .string (strL r), .bool true]) ∧ ∃ q, w' = w.drewN q := by
  go_enter Tryz.func130, Tryz.ntmps130
  go_wp2_with fail
  refine (Cut_yes_c s c a r _ h hc hs).mono ?_
  rintro e w' ⟨rfl, q, rfl⟩
  go_wp2
  go_ret3
  exact ⟨rfl, q, rfl⟩

set_option maxHeartbeats 400000 in
theorem CutPrefix_yes_c (s : ByteArray) (c : UInt8) (r : List UInt8) (w : World) (h : bs s = c :: r) (hs : s.size ≤ 1048576) :
    Calls Tryz.prog 85 #[.string s, .string (strL [c])] w fun e w' => e = .returned (.tuple #[.string (strL r), .bool true]) ∧ w = w' := by
  have hl : s.size = r.length + 1 := by rw [← bs_lenH, h]; simp
  have x1 : s.extract 0 1 = strL [c] := by rw [ext_strL, h]; simp
  have x2 : s.extract 1 s.size = strL r := by rw [ext_strL, ← bs_lenH, List.take_length, h]; simp
  have hsz : (strL [c]).size = 1 := strL_size _
  have hs1 : (1 : Int) ≤ s.size := by omega
  have hb : ((strL [c]).toList == (strL [c]).toList) = true := by simp
  have HX := hid x2
  clear h hl
  go_enter Tryz.func85, Tryz.ntmps85
  go_wp2_with go_in
  go_ret2
  exact ⟨by rw [← HX.out]; rfl, rfl⟩

set_option maxHeartbeats 400000 in
theorem CutPrefix_no_c (s : ByteArray) (c : UInt8) (w : World) (h : ∀ r, bs s ≠ c :: r) (hs : s.size ≤ 1048576) :
    Calls Tryz.prog 85 #[.string s, .string (strL [c])] w fun e w' => e = .returned (.tuple #[.string s, .bool false]) ∧ w = w' := by
  have hsz : (strL [c]).size = 1 := strL_size _
  by_cases h0 : s.size = 0
  · have hs1 : ¬ (1 : Int) ≤ s.size := by omega
    clear h h0
    go_enter Tryz.func85, Tryz.ntmps85
    go_wp2_with go_in
    go_ret2
    exact ⟨rfl, rfl⟩
  · have hs1 : (1 : Int) ≤ s.size := by omega
    obtain ⟨x, r, hx⟩ : ∃ x r, bs s = x :: r := by
      cases hb : bs s with
      | nil => exact absurd (by rw [← bs_lenH, hb]; rfl) h0
      | cons x r => exact ⟨x, r, rfl⟩
    have hxc : [x] ≠ [c] := fun e => h r (by rw [hx]; simp at e; rw [e])
    have x1 : s.extract 0 1 = strL [x] := by rw [ext_strL, hx]; simp
    have hb : ((strL [x]).toList == (strL [c]).toList) = false := by rw [strL_ne]; exact decide_eq_false hxc
    clear h h0 hx hxc
    go_enter Tryz.func85, Tryz.ntmps85
    go_wp2_with go_in
    go_ret2
    exact ⟨rfl, rfl⟩

end Go.Proofs.YtachfmlfmpaddaaGreatDoor

/- Walks: the texts of folders. -/
namespace Go.Proofs.YtachfmlfmpaddaaGreatDoor
open Go.RowKit

theorem entsText_succ {l : List Ent} {k : Nat} {x : Ent} (h : l[k]? = some x) : entsText (l.take (k + 1)) = entsText (l.take k) ++ entText x := by
  unfold entsText; rw [take_snoc' h]; simp
theorem entText_len {x : Ent} (h : entOk x = true) : (entText x).length ≤ 16 := by
  have hw := (entOk_iff.1 h).1
  simp only [wordOk, Bool.and_eq_true, decide_eq_true_eq] at hw
  have := hexT_len x.print
  have hz := bs_lenH x.name
  simp [entText]; omega
theorem name_len {x : Ent} (h : entOk x = true) : x.name.size ≤ 8 := by
  have hw := (entOk_iff.1 h).1
  simp only [wordOk, Bool.and_eq_true, decide_eq_true_eq] at hw
  have := hw.1.1.2
  simpa using this
/-- One entry's text behind what there is. -/
theorem ent_cat (T : List UInt8) (x : Ent) : strL T ++ (x.name ++ ⟨#[61]⟩ ++ strL (hexT x.print) ++ ⟨#[59]⟩) = strL (T ++ entText x) := by
  rw [← strL_bs x.name, show (⟨#[61]⟩ : ByteArray) = strL [61] from rfl, show (⟨#[59]⟩ : ByteArray) = strL [59] from rfl]
  simp only [strL_append]
  congr 1
  simp [entText]
theorem ent_cat2 (T : List UInt8) (x : Ent) : strL T ++ x.name ++ ⟨#[61]⟩ ++ strL (hexT x.print) ++ ⟨#[59]⟩ = strL (T ++ entText x) := by
  rw [← strL_bs x.name, show (⟨#[61]⟩ : ByteArray) = strL [61] from rfl, show (⟨#[59]⟩ : ByteArray) = strL [59] from rfl]
  simp only [strL_append]
  congr 1
  simp [entText]

set_option maxHeartbeats 2000000 in
set_option maxRecDepth 100000 in
theorem impl_FolderText_c (v : Value) (xs : List Ent) (w : World) (h : Ents w w.heap.size v xs) (hg : Glob w) :
    Calls Tryz.prog 96 #[v] w fun e w' => e = .returned (.string (strL (folderText xs))) ∧ Below w.heap.size w w' := by
  obtain ⟨n, hn⟩ : ∃ n, xs.length = n := ⟨_, rfl⟩
  obtain ⟨a, c, rfl, h1, h2, h3⟩ := h.ents hn
  have HN := hid hn
  cases hok : entsOk xs
  · have HO := hid (folder_off hok)
    clear h3 hn
    go_enter Tryz.func96, Tryz.ntmps96
    go_wp2_with fail
    refine (impl_EntriesValid_c _ xs _ h).mono ?_
    rw [hok]
    rintro e w1 ⟨rfl, b1⟩
    go_wp2
    go_ret
    exact ⟨by rw [HO.out]; rfl, b1⟩
  · have HO := hid (folder_on hok)
    have HA := hid (fun (e : Ent) (he : e ∈ xs) => ents_all hok he)
    have h3n := (ents_in hok).1
    rw [hn] at h3n
    have HK := hid hok
    have HG := hid hg
    go_enter Tryz.func96, Tryz.ntmps96
    go_wp2_with fail
    refine (impl_EntriesValid_c _ xs _ h).mono ?_
    rw [HK.out]
    rintro e w1 ⟨rfl, b1⟩
    have hs1 := b1.size
    clear hok h hn hg
    go_wp2
    go_loopw [3, 11] (fun tv i wr => ∃ (k : Nat) (T : List UInt8), k ≤ n ∧ i = .int .i64 k ∧ tv = .string (strL T) ∧ T.length ≤ 1 + 16 * k ∧ Hid (T = 100 :: entsText (xs.take k)) ∧ Below w1.heap.size w1 wr) (fun _ i _ => n - (intOf i).toNat)
    case atStart => exact ⟨0, [100], Nat.zero_le _, rfl, rfl, by simp, rfl, Below.refl _ _⟩
    case round =>
      obtain ⟨k, T, hk, rfl, rfl, hTl, hT, hb⟩ := hrel
      have c1 := bl_then b1 hb
      by_cases hlt : k < n
      · obtain ⟨b, o, t, r, rfl, hbl, hx, k0, k1⟩ := h3 k hlt
        have j0 := (c1.cell (p := ⟨b, o + k * 2, none⟩) hbl).trans k0
        have j1 := (c1.cell (p := ⟨b, o + k * 2 + 1, none⟩) hbl).trans k1
        have hoke := HA.out _ (List.mem_of_getElem? hx.out)
        have hsn := name_len hoke
        have hsh := hexT_len r
        have hlt16 := entText_len hoke
        have hcat := ent_cat T ⟨t, r⟩
        have hs0 := strL_size T
        have hs2 := strL_size (hexT r)
        have HT2 := hid (show T ++ entText ⟨t, r⟩ = 100 :: entsText (xs.take (k + 1)) by rw [entsText_succ hx.out, hT.out]; rfl)
        have HTL := hid (show (T ++ entText ⟨t, r⟩).length ≤ 1 + 16 * (k + 1) by simp; omega)
        have hal : Below w1.heap.size w1 (wr.alloc (.cells #[.string t, .int .i64 r] 81)) := hb.alloc hb.size _
        have hgl : Glob (wr.alloc (.cells #[.string t, .int .i64 r] 81)) := (HG.out.on c1).on ((Below.refl _ _).alloc (Nat.le_refl _) _)
        have hcell : (wr.alloc (.cells #[.string t, .int .i64 r] 81)).heap[wr.heap.size]? = some (.cells #[.string t, .int .i64 r] 81 (0, 0)) := heap_alloc_new _ _
        obtain ⟨g, hgn⟩ : ∃ g, g = wr.heap.size := ⟨_, rfl⟩
        simp only at hsn hcat
        clear k0 k1 h3 hoke hlt16
        go_wp2
        obtain ⟨W1, hW1⟩ : ∃ W1, W1 = wr.alloc (.cells #[.string t, .int .i64 r] 81) := ⟨_, rfl⟩
        rw [← hW1] at hal hgl hcell ⊢
        rw [← hgn] at hcell ⊢
        have hgW : g < W1.heap.size := (Array.getElem?_eq_some_iff.1 hcell).1
        clear hW1
        have hq1 : (strL T).size + (t ++ ⟨#[61]⟩ ++ strL (hexT r) ++ ⟨#[59]⟩ : ByteArray).size ≤ 1000 := by simp only [ByteArray.size_append, hs0, hs2]; have e1 : (⟨#[61]⟩ : ByteArray).size = 1 := rfl; have e2 : (⟨#[59]⟩ : ByteArray).size = 1 := rfl; omega
        have hq2 : t.size + (⟨#[61]⟩ : ByteArray).size ≤ 1000 := by have e1 : (⟨#[61]⟩ : ByteArray).size = 1 := rfl; omega
        have hq3 : (t ++ ⟨#[61]⟩ : ByteArray).size + (strL (hexT r)).size ≤ 1000 := by simp only [ByteArray.size_append, hs2]; have e1 : (⟨#[61]⟩ : ByteArray).size = 1 := rfl; omega
        have hq4 : (t ++ ⟨#[61]⟩ ++ strL (hexT r) : ByteArray).size + (⟨#[59]⟩ : ByteArray).size ≤ 1000 := by simp only [ByteArray.size_append, hs2]; have e1 : (⟨#[61]⟩ : ByteArray).size = 1 := rfl; have e2 : (⟨#[59]⟩ : ByteArray).size = 1 := rfl; omega
        refine wp_region_vals rfl (by kernel_rfl) (by kernel_rfl) (by kernel_rfl) (by simp) (by kernel_rfl) (fun w' => Below W1.heap.size W1 w') [.string (strL T), .pointer (some ⟨g, 0, none⟩), .string t, .string (t ++ ⟨#[61]⟩), .pointer (some ⟨g, 1, none⟩), .int .i64 r, .string (strL (hexT r)), .string (t ++ ⟨#[61]⟩ ++ strL (hexT r)), .string (t ++ ⟨#[61]⟩ ++ strL (hexT r) ++ ⟨#[59]⟩), .string (strL T ++ (t ++ ⟨#[61]⟩ ++ strL (hexT r) ++ ⟨#[59]⟩)), .string (strL T ++ (t ++ ⟨#[61]⟩ ++ strL (hexT r) ++ ⟨#[59]⟩))] (Below.refl _ _).drew ?_ ?_
        · intro i oo hi a' w4 hj' hb' hd
          obtain ⟨hlt1, rfl⟩ := Array.getElem?_eq_some_iff.1 hi
          have hlt' : i < 11 := hlt1
          clear hi
          have hcell4 := (hj'.block g hgW).trans hcell
          obtain rfl | rfl | rfl | rfl | rfl | rfl | rfl | rfl | rfl | rfl | rfl : i = 0 ∨ i = 1 ∨ i = 2 ∨ i = 3 ∨ i = 4 ∨ i = 5 ∨ i = 6 ∨ i = 7 ∨ i = 8 ∨ i = 9 ∨ i = 10 := by omega
          · have b1 : a'.eval (.tmp 3) = .string (strL T) := hb' 3 (by kernel_rfl)
            exact iv_val (by simp [execOp, b1]) ⟨rfl, hj'⟩
          · have b1 : a'.eval (.tmp 5) = .pointer (some ⟨g, 0, none⟩) := hb' 5 (by rfl); have u1 := ev_get b1
            exact iv_val (v := .pointer (some ⟨g, 0, none⟩)) (by simp [execOp, u1, go_sem, Result.andThen]) ⟨rfl, hj'⟩
          · have v1 : a'.eval (.tmp 16) = .pointer (some ⟨g, 0, none⟩) := hd ⟨1, .data⟩ (by simp) rfl; have u1 := ev_get v1
            have hc0 : w4.cell? ⟨g, 0, none⟩ = some (.string t) := by simp [World.cell?, hcell4]
            exact iv_val (v := .string t) (by simp [execOp, u1, hc0, go_sem, Result.andThen]) ⟨rfl, hj'⟩
          · have v1 : a'.eval (.tmp 17) = .string t := hd ⟨2, .data⟩ (by simp) rfl; have u1 := ev_get v1
            exact iv_val (v := .string (t ++ ⟨#[61]⟩)) (by simp [execOp, u1, go_sem, Result.andThen]; rw [if_neg (by omega)]) ⟨rfl, hj'⟩
          · have b1 : a'.eval (.tmp 5) = .pointer (some ⟨g, 0, none⟩) := hb' 5 (by rfl); have u1 := ev_get b1
            exact iv_val (v := .pointer (some ⟨g, 1, none⟩)) (by simp [execOp, u1, go_sem, Result.andThen]) ⟨rfl, hj'⟩
          · have v1 : a'.eval (.tmp 19) = .pointer (some ⟨g, 1, none⟩) := hd ⟨4, .data⟩ (by simp) rfl; have u1 := ev_get v1
            have hc0 : w4.cell? ⟨g, 1, none⟩ = some (.int .i64 r) := by simp [World.cell?, hcell4]
            exact iv_val (v := .int .i64 r) (by simp [execOp, u1, hc0, go_sem, Result.andThen]) ⟨rfl, hj'⟩
          · have v4 : a'.eval (.tmp 20) = .int .i64 r := hd ⟨5, .data⟩ (by simp) rfl; have u4 := ev_get v4
            refine iv_enter (f := 151) (args := #[.int .i64 r]) (by simp [execOp, u4, go_sem]) ?_
            refine (impl_HexText_c r _ (hgl.on hj')).mono ?_
            rintro e w5 ⟨rfl, b5⟩
            exact ⟨_, rfl, rfl, bl_then hj' b5⟩
          · have v1 : a'.eval (.tmp 18) = .string (t ++ ⟨#[61]⟩) := hd ⟨3, .data⟩ (by simp) rfl; have u1 := ev_get v1
            have v2 : a'.eval (.tmp 21) = .string (strL (hexT r)) := hd ⟨6, .data⟩ (by simp) rfl; have u2 := ev_get v2
            exact iv_val (v := .string (t ++ ⟨#[61]⟩ ++ strL (hexT r))) (by simp [execOp, u1, u2, go_sem, Result.andThen]; rw [if_neg (by omega)]) ⟨rfl, hj'⟩
          · have v1 : a'.eval (.tmp 22) = .string (t ++ ⟨#[61]⟩ ++ strL (hexT r)) := hd ⟨7, .data⟩ (by simp) rfl; have u1 := ev_get v1
            exact iv_val (v := .string (t ++ ⟨#[61]⟩ ++ strL (hexT r) ++ ⟨#[59]⟩)) (by simp [execOp, u1, go_sem, Result.andThen]; rw [if_neg (by omega)]) ⟨rfl, hj'⟩
          · have v1 : a'.eval (.tmp 15) = .string (strL T) := hd ⟨0, .data⟩ (by simp) rfl; have u1 := ev_get v1
            have v2 : a'.eval (.tmp 23) = .string (t ++ ⟨#[61]⟩ ++ strL (hexT r) ++ ⟨#[59]⟩) := hd ⟨8, .data⟩ (by simp) rfl; have u2 := ev_get v2
            exact iv_val (v := .string (strL T ++ (t ++ ⟨#[61]⟩ ++ strL (hexT r) ++ ⟨#[59]⟩))) (by simp [execOp, u1, u2, go_sem, Result.andThen]; rw [if_neg (by omega)]) ⟨rfl, hj'⟩
          · have v1 : a'.eval (.tmp 24) = .string (strL T ++ (t ++ ⟨#[61]⟩ ++ strL (hexT r) ++ ⟨#[59]⟩)) := hd ⟨9, .data⟩ (by simp) rfl
            exact iv_val (by simp [execOp, v1]) ⟨rfl, hj'⟩
        intro tm w4 hb4 hF
        have q := hF 10 _ rfl
        clear hF
        simp only [refillL, List.setIfInBounds_toArray, List.set_cons_succ, List.set_cons_zero]
        rw [show tm.getD 3 undef = .string (strL T ++ (t ++ ⟨#[61]⟩ ++ strL (hexT r) ++ ⟨#[59]⟩)) from q, hcat]
        have hb5 := hal.trans (hb4.mono hal.size)
        go_wp2
        go_roundw
        case rel => exact ⟨k + 1, _, by omega, by go_num, rfl, HTL.out, HT2, hb5⟩
        case measure => simp [intOf]; omega
      · have HF := hid (show T = folderText xs by rw [HO.out, hT.out, take_all HN.out (show n ≤ k by omega)])
        go_wp2
        go_ret
        exact ⟨by rw [← HF.out]; rfl, c1⟩

theorem spec_HexText_e (n : Int) (w : World) {s : ByteArray} (h : strL (hexT n) = s) :
    Calls Tryz.prog 177 #[.int .i64 n] w fun e w' => e = .returned (.string s) ∧ w = w' := h ▸ spec_HexText_c n w

set_option maxHeartbeats 2000000 in
set_option maxRecDepth 100000 in
theorem spec_FolderText_c (v : Value) (xs : List Ent) (w : World) (B : Nat) (h : Ents w B v xs) (hx0 : ∀ x ∈ xs, x.name.size ≤ 1048576) (hl0 : xs.length ≤ 1048576) :
    Calls Tryz.prog 155 #[v] w fun e w' => e = .returned (.string (strL (folderText xs))) ∧ ∃ q, w' = w.drewN q := by
  obtain ⟨n, hn⟩ : ∃ n, xs.length = n := ⟨_, rfl⟩
  obtain ⟨a, c, rfl, h1, h2, h3⟩ := h.ents hn
  have HN := hid hn
  cases hok : entsOk xs
  · have HO := hid (folder_off hok)
    clear h3 hn
    go_enter Tryz.func155, Tryz.ntmps155
    go_wp2_with fail
    refine (spec_EntriesValid_c _ xs _ _ h hx0 hl0).mono ?_
    rw [hok]
    rintro e w1 ⟨rfl, z, rfl⟩
    go_wp2
    go_ret
    exact ⟨by rw [HO.out]; rfl, z, rfl⟩
  · have HO := hid (folder_on hok)
    have HA := hid (fun (e : Ent) (he : e ∈ xs) => ents_all hok he)
    have h3n := (ents_in hok).1
    rw [hn] at h3n
    have HK := hid hok
    go_enter Tryz.func155, Tryz.ntmps155
    go_wp2_with fail
    refine (spec_EntriesValid_c _ xs _ _ h hx0 hl0).mono ?_
    rw [HK.out]
    rintro e w1 ⟨rfl, z, rfl⟩
    clear hok h hn hx0 hl0
    go_wp2
    go_loopw [3, 4] (fun tv i wr => ∃ (k q : Nat) (T : List UInt8), k ≤ n ∧ i = .int .i64 k ∧ tv = .string (strL T) ∧ T.length ≤ 1 + 16 * k ∧ Hid (T = 100 :: entsText (xs.take k)) ∧ wr = w.drewN q) (fun _ i _ => n - (intOf i).toNat)
    case atStart => exact ⟨0, z, [100], Nat.zero_le _, rfl, rfl, by simp, rfl, rfl⟩
    case round =>
      obtain ⟨k, q, T, hk, rfl, rfl, hTl, hT, rfl⟩ := hrel
      by_cases hlt : k < n
      · obtain ⟨b, o, t, r, rfl, hbl, hx, k0, k1⟩ := h3 k hlt
        have hoke := HA.out _ (List.mem_of_getElem? hx.out)
        have hsn := name_len hoke
        have hsh := hexT_len r
        have hlt16 := entText_len hoke
        have hcat := ent_cat2 T ⟨t, r⟩
        have hs0 := strL_size T
        have hs2 := strL_size (hexT r)
        obtain ⟨H, hH⟩ : ∃ H, strL (hexT r) = H := ⟨_, rfl⟩
        rw [hH] at hcat hs2
        have HH := hid hH
        have HT2 := hid (show T ++ entText ⟨t, r⟩ = 100 :: entsText (xs.take (k + 1)) by rw [entsText_succ hx.out, hT.out]; rfl)
        have HTL := hid (show (T ++ entText ⟨t, r⟩).length ≤ 1 + 16 * (k + 1) by simp; omega)
        simp only at hsn hcat
        clear h3 hoke hlt16 hH
        go_wp2
        go_quiet (first | (go_at_call 177; exact qsame (spec_HexText_e _ _ HH.out)) | fail)
        go_wp2
        go_roundw
        case rel => exact ⟨k + 1, _, _, by omega, by go_num, rfl, HTL.out, HT2, rfl⟩
        case measure => simp [intOf]; omega
      · have HF := hid (show T = folderText xs by rw [HO.out, hT.out, take_all HN.out (show n ≤ k by omega)])
        go_wp2
        go_ret
        exact ⟨by rw [← HF.out]; rfl, q, rfl⟩

end Go.Proofs.YtachfmlfmpaddaaGreatDoor

/- Walks: the laws' comparing of equal rows; the text with a print. -/
namespace Go.Proofs.YtachfmlfmpaddaaGreatDoor
open Go.RowKit


set_option maxHeartbeats 400000 in
theorem laws_samePieces_s (v u : Value) (xs : List Pc) (B B' : Nat) (w : World) (h : Pcs w B v xs) (h' : Pcs w B' u xs) :
    Calls Tryz.prog 47 #[v, u] w fun e w' => e = .returned (.bool true) ∧ ∃ m, w' = w.drewN m := by
  obtain ⟨n, hn⟩ : ∃ n, xs.length = n := ⟨_, rfl⟩
  obtain ⟨a, c, rfl, h1, h2, h3⟩ := h.pcs hn
  obtain ⟨a', c', rfl, h1', h2', h3'⟩ := h'.pcs hn
  clear hn h h'
  go_enter Tryz.func47, Tryz.ntmps47
  go_wp2
  go_loopw [5] (fun i wr => ∃ k m : Nat, k ≤ n ∧ i = .int .i64 k ∧ wr = w.drewN m) (fun i _ => n - (intOf i).toNat)
  case atStart => exact ⟨0, 0, Nat.zero_le _, rfl, rfl⟩
  case round =>
    obtain ⟨k, m, hk, rfl, rfl⟩ := hrel
    by_cases hlt : k < n
    · obtain ⟨b, o, r, t, rfl, hbl, hx, k0, k1⟩ := h3 k hlt
      obtain ⟨b', o', r', t', rfl, hbl', hx', k0', k1'⟩ := h3' k hlt
      obtain ⟨rfl, rfl⟩ : r = r' ∧ t = t' := by have := Option.some.inj (hx.out.symm.trans hx'.out); simpa using this
      have hkn : (k : Int) < n := by omega
      clear h3 h3'
      go_wp2
      go_quiet (fail)
      go_wp2
      go_roundw
      case rel => exact ⟨k + 1, _, by omega, by go_num, rfl⟩
      case measure => simp [intOf]; omega
    · clear h3 h3'
      go_wp2
      go_ret
      exact ⟨rfl, _, rfl⟩

set_option maxHeartbeats 400000 in
theorem laws_samePieces_l (v u : Value) (xs ys : List Pc) (B B' : Nat) (w : World) (h : Pcs w B v xs) (h' : Pcs w B' u ys) (hne : xs.length ≠ ys.length) :
    Calls Tryz.prog 47 #[v, u] w fun e w' => e = .returned (.bool false) ∧ w = w' := by
  obtain ⟨n, hn⟩ : ∃ n, xs.length = n := ⟨_, rfl⟩
  obtain ⟨m, hm⟩ : ∃ m, ys.length = m := ⟨_, rfl⟩
  obtain ⟨a, c, rfl, h1, h2, _⟩ := h.pcs hn
  obtain ⟨a', c', rfl, h1', h2', _⟩ := h'.pcs hm
  have hd : ((n : Int) == m) = false := by simp; omega
  clear hn hm h h' hne
  go_enter Tryz.func47, Tryz.ntmps47
  go_wp2
  go_ret
  exact ⟨rfl, rfl⟩

end Go.Proofs.YtachfmlfmpaddaaGreatDoor

/- Walks: copies of rows of pieces; a text that is put. -/
namespace Go.Proofs.YtachfmlfmpaddaaGreatDoor
open Go.RowKit

theorem str_ne {u t : ByteArray} (h : u ≠ t) : (u.toList == t.toList) = false := by
  rw [beq_eq_false_iff_ne]
  intro e
  rw [ByteArray.toList_eq, ByteArray.toList_eq] at e
  exact h (Go.WideShapes.bytes_inj e)

set_option maxHeartbeats 400000 in
theorem cloneP_c (v : Value) (xs : List Pc) (w : World) (h : Pcs w w.heap.size v xs) (hl : xs.length ≤ 1000000) :
    Calls Tryz.prog 92 #[v] w fun e w' => ∃ v', e = .returned v' ∧ OwnP w' w.heap.size v' xs ∧ Below w.heap.size w w' := by
  obtain ⟨n, hn⟩ : ∃ n, xs.length = n := ⟨_, rfl⟩
  obtain ⟨a, c, rfl, _, _, h3⟩ := h.pcs hn
  have h0 := h
  obtain ⟨i0, hi0, hz0, hz1, hz2⟩ := info_parts info_pcO
  have qn : ∀ (w : World) (a : Option Addr) (n c n' c' : Nat), (binOp .eql 23 (.slice a n c) (.slice none n' c')).run Tryz.prog w = .ok (.bool a.isNone) w := fun w a n c n' c' => Lib.run_eql_slice_nil w _ _ a n c n' c' Tryz.underlying23
  cases a with
  | none =>
    have hn0 : n = 0 := by
      rcases Nat.eq_zero_or_pos n with h | h
      · exact h
      · obtain ⟨b, o, r, t, hb, _⟩ := h3 0 h; cases hb
    have hx : xs = [] := List.eq_nil_of_length_eq_zero (by omega)
    have HX := hid hx
    clear hx hn h3 h0 hl
    go_enter Tryz.func92, Tryz.ntmps92
    go_wp2_with (simp only [qn])
    go_ret
    exact ⟨_, rfl, by rw [HX.out]; exact Own.nil_, Below.refl _ _⟩
  | some ad =>
    have HN := hid hn
    have HL := hid hl
    have hal : Below w.heap.size w (w.alloc (.cells #[] 60)) := (Below.refl _ _).alloc (Nat.le_refl _) _
    clear hn h3 hl
    go_enter Tryz.func92, Tryz.ntmps92
    go_wp2_with (first | simp only [qn] | (at_builtin; refine wpList_cat (enc := encP) (w0 := w) rfl _ _ 23 rfl w.heap.size w.heap.size 60 i0 _ 2 24 Tryz.underlying23 hi0 hz0 hz1 hz2 rfl (by decide) _ _ [] xs (Own.made w (Nat.le_refl _)) _ (h0.below hal (Nat.le_refl _)) hal (by simp) (Nat.le_refl _) rfl rfl encP_one (by have := HL.out; simp; omega) (by decide) ?_; intro v' w' hown' hb' hB' hg'))
    go_ret
    exact ⟨_, rfl, hown', hb'⟩

set_option maxHeartbeats 2000000 in
set_option maxRecDepth 100000 in
theorem impl_PutText_c (v : Value) (xs : List Pc) (t : ByteArray) (w : World) (h : Pcs w w.heap.size v xs) :
    Calls Tryz.prog 95 #[v, .string t] w fun e w' => ∃ v', e = .returned (.tuple #[v', .int .i64 (putS xs t).2.1, .bool (putS xs t).2.2]) ∧ OwnP w' w.heap.size v' (putS xs t).1 ∧ Below w.heap.size w w' := by
  obtain ⟨n, hn⟩ : ∃ n, xs.length = n := ⟨_, rfl⟩
  obtain ⟨a, c, rfl, _, _, h3⟩ := h.pcs hn
  have HP : Hid (∀ wx, Below w.heap.size w wx → Pcs wx wx.heap.size (.slice a n c) xs) := fun wx hx' => h.on hx'
  have HN := hid hn
  cases hok : storeOk xs
  · have HO := hid (put_off (t := t) hok)
    clear h3 hn
    rw [HO.out]
    go_enter Tryz.func95, Tryz.ntmps95
    go_wp2_with fail
    refine (impl_StoreValid_c _ xs _ h).mono ?_
    rw [hok]
    rintro e w1 ⟨rfl, b1⟩
    go_wp2
    go_ret3
    exact ⟨_, rfl, Own.nil_, b1⟩
  have HK := hid hok
  have h40 := (st_in hok).1
  rw [hn] at h40
  have HL := hid (show xs.length ≤ 1000000 by omega)
  cases ht : textOk (bs t)
  · have HO := hid (put_bad hok ht)
    have HT := hid ht
    clear h3 hn ht
    rw [HO.out]
    go_enter Tryz.func95, Tryz.ntmps95
    go_wp2_with fail
    refine (impl_StoreValid_c _ xs _ h).mono ?_
    rw [hok]
    rintro e w1 ⟨rfl, b1⟩
    clear hok h
    go_wp2_with fail
    refine (impl_TextValid_e _ _ HT.out).mono ?_
    rintro e w2 ⟨rfl, rfl⟩
    go_wp2_with fail
    refine (cloneP_c _ xs _ (HP.out _ b1) HL.out).mono ?_
    rintro e w3 ⟨v', rfl, o3, b3⟩
    have s1 := b1.size
    go_wp2
    go_ret3
    exact ⟨_, rfl, o3.less s1, bl_then b1 b3⟩
  have HT := hid ht
  obtain ⟨p, hp⟩ : ∃ p, printOf (bs t) = p := ⟨_, rfl⟩
  have HZ := hid hp
  obtain ⟨q, hq⟩ : ∃ q, findAt xs p = q := ⟨_, rfl⟩
  have HQ := hid hq
  cases hg : getP xs p with
  | some u =>
    obtain ⟨x, hx1, hx2, hx3⟩ := find_at (l := xs) (n := p) hok (by unfold hasP; rw [hg]; rfl)
    have hux : u = x.text := by rw [hx2] at hg; simpa using hg.symm
    rw [hq] at hx1
    have hqn : q < n := by have := (List.getElem?_eq_some_iff.1 hx1).1; omega
    obtain ⟨b, o, r, u', rfl, hbl, hx, k0, k1⟩ := h3 q hqn
    have hxr : x = ⟨r, u'⟩ := by have := hx1.symm.trans hx.out; simpa using this
    subst hxr
    simp only at hux
    subst hux
    have HG := hid (show hasP xs p = true by unfold hasP; rw [hg]; rfl)
    have hqn' : (q : Int) < n := by omega
    by_cases hut : u = t
    · subst hut
      have HO := hid (put_there hok ht (by rw [hp]; exact hg))
      clear h3 hn ht hp hq hg hx1 hx2 hx3 hok hx k0
      rw [HO.out, HZ.out]
      go_enter Tryz.func95, Tryz.ntmps95
      go_wp2_with fail
      refine (impl_StoreValid_c _ xs _ h).mono ?_
      rw [HK.out]
      rintro e w1 ⟨rfl, b1⟩
      clear h
      go_wp2_with fail
      refine (impl_TextValid_e _ _ HT.out).mono ?_
      rintro e w2 ⟨rfl, rfl⟩
      go_wp2_with fail
      refine (impl_PrintOf_e _ _ HZ.out).mono ?_
      rintro e w2 ⟨rfl, rfl⟩
      go_wp2_with fail
      refine (impl_findPiece_c _ xs p _ (HP.out _ b1) HK.out).mono ?_
      rw [HQ.out, HG.out]
      rintro e w3 ⟨rfl, b3⟩
      have d3 := bl_then b1 b3
      have s3 := d3.size
      have j1 := (d3.cell (p := ⟨b, o + q * 2 + 1, none⟩) hbl).trans k1
      go_wp2_with fail
      refine (cloneP_c _ xs _ (HP.out _ d3) HL.out).mono ?_
      rintro e w4 ⟨v', rfl, o4, b4⟩
      go_wp2
      go_ret3
      exact ⟨_, rfl, o4.less s3, bl_then d3 b4⟩
    · have HO := hid (put_other hok ht (by rw [hp]; exact hg) hut)
      have hsn := str_ne hut
      clear h3 hn ht hp hq hg hx1 hx2 hx3 hok hx k0
      rw [HO.out]
      go_enter Tryz.func95, Tryz.ntmps95
      go_wp2_with fail
      refine (impl_StoreValid_c _ xs _ h).mono ?_
      rw [HK.out]
      rintro e w1 ⟨rfl, b1⟩
      clear h
      go_wp2_with fail
      refine (impl_TextValid_e _ _ HT.out).mono ?_
      rintro e w2 ⟨rfl, rfl⟩
      go_wp2_with fail
      refine (impl_PrintOf_e _ _ HZ.out).mono ?_
      rintro e w2 ⟨rfl, rfl⟩
      go_wp2_with fail
      refine (impl_findPiece_c _ xs p _ (HP.out _ b1) HK.out).mono ?_
      rw [HQ.out, HG.out]
      rintro e w3 ⟨rfl, b3⟩
      have d3 := bl_then b1 b3
      have s3 := d3.size
      have j1 := (d3.cell (p := ⟨b, o + q * 2 + 1, none⟩) hbl).trans k1
      go_wp2_with fail
      refine (cloneP_c _ xs _ (HP.out _ d3) HL.out).mono ?_
      rintro e w4 ⟨v', rfl, o4, b4⟩
      go_wp2
      go_ret3
      exact ⟨_, rfl, o4.less s3, bl_then d3 b4⟩
  | none =>
    have HG := hid (show hasP xs p = false by unfold hasP; rw [hg]; rfl)
    by_cases hfull : n = 40
    · have HO := hid (put_full hok ht (by rw [hp]; exact hg) (by rw [hn]; exact hfull))
      have hfi : ((n : Int) == 40) = true := by rw [hfull]; rfl
      clear h3 ht hp hq hg hok hn hfull
      rw [HO.out]
      go_enter Tryz.func95, Tryz.ntmps95
      go_wp2_with fail
      refine (impl_StoreValid_c _ xs _ h).mono ?_
      rw [HK.out]
      rintro e w1 ⟨rfl, b1⟩
      clear h
      go_wp2_with fail
      refine (impl_TextValid_e _ _ HT.out).mono ?_
      rintro e w2 ⟨rfl, rfl⟩
      go_wp2_with fail
      refine (impl_PrintOf_e _ _ HZ.out).mono ?_
      rintro e w2 ⟨rfl, rfl⟩
      go_wp2_with fail
      refine (impl_findPiece_c _ xs p _ (HP.out _ b1) HK.out).mono ?_
      rw [HQ.out, HG.out]
      rintro e w3 ⟨rfl, b3⟩
      have d3 := bl_then b1 b3
      have s3 := d3.size
      go_wp2_with fail
      refine (cloneP_c _ xs _ (HP.out _ d3) HL.out).mono ?_
      rintro e w4 ⟨v', rfl, o4, b4⟩
      go_wp2
      go_ret3
      exact ⟨_, rfl, o4.less s3, bl_then d3 b4⟩
    · have HO := hid (put_new hok ht (by rw [hp]; exact hg) (by rw [hn]; exact hfull))
      have hfi : ¬ ((n : Int) = 40) := by omega
      have HI := hid (show insP xs p t = xs.take q ++ ⟨p, t⟩ :: xs.drop q by unfold insP; rw [hq])
      have hqn := findAt_le xs p
      rw [hq] at hqn
      have HQN := hid hqn
      clear h3 ht hp hq hg hok hn hqn
      rw [HO.out, HZ.out]
      go_enter Tryz.func95, Tryz.ntmps95
      go_wp2_with fail
      refine (impl_StoreValid_c _ xs _ h).mono ?_
      rw [HK.out]
      rintro e w1 ⟨rfl, b1⟩
      clear h
      go_wp2_with fail
      refine (impl_TextValid_e _ _ HT.out).mono ?_
      rintro e w2 ⟨rfl, rfl⟩
      go_wp2_with fail
      refine (impl_PrintOf_e _ _ HZ.out).mono ?_
      rintro e w2 ⟨rfl, rfl⟩
      go_wp2_with fail
      refine (impl_findPiece_c _ xs p _ (HP.out _ b1) HK.out).mono ?_
      rw [HQ.out, HG.out]
      rintro e w3 ⟨rfl, b3⟩
      have d3 := bl_then b1 b3
      have s3 := d3.size
      go_wp2_with fail
      refine (cloneP_c _ xs _ (HP.out _ d3) HL.out).mono ?_
      rintro e w4 ⟨v', rfl, o4, b4⟩
      have d4 := bl_then d3 b4
      have s4 := b4.size
      obtain ⟨W5, hW5⟩ : ∃ W5, W5 = w4.alloc (.cells #[.int .i64 p, .string t] 60) := ⟨_, rfl⟩
      have o5 : OwnP W5 w3.heap.size v' xs := by rw [hW5]; exact o4.alloc _
      have hlt4 := o4.lt
      have hv5 : W5.heap[w4.heap.size]? = some (.cells #[.int .i64 p, .string t] 60 (0, 0)) := by rw [hW5]; exact heap_alloc_new _ _
      have hb5 : Below w.heap.size w W5 := by rw [hW5]; exact d4.alloc d4.size _
      have hs5 : w3.heap.size ≤ W5.heap.size := by rw [hW5]; simp; omega
      clear b4 o4
      go_wp2_with fail
      rw [← hW5]
      refine (insP_c v' xs w3.heap.size q w4.heap.size p t W5 o5 HQN.out hs5 hv5 (fun e => by have := (hlt4 _ e).2; omega) HL.out).mono ?_
      rintro e w6 ⟨v6, rfl, o6, g6⟩
      have hb6 := hb5.grown g6 hb5.size (fun g hg => by have := (hlt4 g hg).1; omega)
      go_wp2
      go_ret3
      exact ⟨_, rfl, by rw [HI.out]; exact o6.less s3, hb6⟩

end Go.Proofs.YtachfmlfmpaddaaGreatDoor
