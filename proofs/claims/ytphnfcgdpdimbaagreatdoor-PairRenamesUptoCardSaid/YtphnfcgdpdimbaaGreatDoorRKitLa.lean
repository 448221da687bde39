/-
  Texts merged: LineLaw, LineCap, LineEnds. What each law says and asks stands at its head.
-/
import Derived.Test.YtphnfcgdpdimbaaGreatDoorRKitW
namespace Go.Proofs.YtphnfcgdpdimbaaGreatDoor
namespace LineLaw
structure Hk where
 a0 : Nat
 a1 : Nat
 b0 : Nat
 b1 : Nat
 deriving DecidableEq
section
variable {α : Type} [DecidableEq α]
def pre : List α → List α → Nat
 | x :: a, y :: b => if x = y then pre a b + 1 else 0
 | _, _ => 0
theorem pre_nil_right (a : List α) : pre a [] = 0 := by cases a <;> simp [pre]
theorem pre_le_left : ∀ a b : List α, pre a b ≤ a.length
 | [], _ => by simp [pre]
 | _ :: _, [] => by simp [pre]
 | x :: a, y :: b => by have := pre_le_left a b; simp only [pre]; split <;> simp <;> omega
theorem pre_le_right : ∀ a b : List α, pre a b ≤ b.length
 | [], _ => by simp [pre]
 | _ :: _, [] => by simp [pre]
 | x :: a, y :: b => by have := pre_le_right a b; simp only [pre]; split <;> simp <;> omega
theorem pre_take : ∀ a b : List α, a.take (pre a b) = b.take (pre a b)
 | [], _ => by simp [pre]
 | _ :: _, [] => by simp [pre]
 | x :: a, y :: b => by
  simp only [pre]
  split
  ·rename_i h; simp [h, pre_take a b]
  ·simp
theorem pre_step {a b : List α} {k : Nat} {x : α} (hx : a[k]? = some x) (hy : b[k]? = some x) : pre (a.drop k) (b.drop k) = pre (a.drop (k + 1)) (b.drop (k + 1)) + 1 := by
 obtain ⟨h1, e1⟩ := List.getElem?_eq_some_iff.1 hx
 obtain ⟨h2, e2⟩ := List.getElem?_eq_some_iff.1 hy
 rw [List.drop_eq_getElem_cons h1, List.drop_eq_getElem_cons h2, e1, e2]
 simp [pre]
theorem pre_stop {a b : List α} {k : Nat} {x y : α} (hx : a[k]? = some x) (hy : b[k]? = some y) (h : x ≠ y) : pre (a.drop k) (b.drop k) = 0 := by
 obtain ⟨h1, e1⟩ := List.getElem?_eq_some_iff.1 hx
 obtain ⟨h2, e2⟩ := List.getElem?_eq_some_iff.1 hy
 rw [List.drop_eq_getElem_cons h1, List.drop_eq_getElem_cons h2, e1, e2]
 simp [pre, h]
theorem pre_end {a b : List α} {k : Nat} (h : a.length ≤ k ∨ b.length ≤ k) : pre (a.drop k) (b.drop k) = 0 := by
 rcases h with h | h
 ·rw [List.drop_eq_nil_of_le h]; simp [pre]
 ·rw [List.drop_eq_nil_of_le h, pre_nil_right]
def suf (a b : List α) : Nat := pre a.reverse b.reverse
theorem suf_le_left (a b : List α) : suf a b ≤ a.length := by have := pre_le_left a.reverse b.reverse; simpa [suf] using this
theorem suf_le_right (a b : List α) : suf a b ≤ b.length := by have := pre_le_right a.reverse b.reverse; simpa [suf] using this
theorem suf_drop (a b : List α) : a.drop (a.length - suf a b) = b.drop (b.length - suf a b) := by
 have h := pre_take a.reverse b.reverse
 rw [List.take_reverse, List.take_reverse] at h
 exact List.reverse_inj.1 h
def L : List α → List α → Nat
 | [], _ => 0
 | _ :: _, [] => 0
 | u :: x, v :: y => if u = v then L x y + 1 else max (L x (v :: y)) (L (u :: x) y)
termination_by x y => x.length + y.length
theorem L_nil_left (y : List α) : L [] y = 0 := by simp [L]
theorem L_nil_right (x : List α) : L x [] = 0 := by cases x <;> simp [L]
theorem L_cons_cons (u v : α) (x y : List α) : L (u :: x) (v :: y) = if u = v then L x y + 1 else max (L x (v :: y)) (L (u :: x) y) := by rw [L]
theorem L_comm (x y : List α) : L x y = L y x := by
 fun_induction L x y with
 | case1 y => rw [L_nil_right]
 | case2 u x => rw [L_nil_left]
 | case3 x y v ih => rw [L_cons_cons, if_pos rfl, ih]
 | case4 u x v y h ih1 ih2 => rw [L_cons_cons, if_neg (Ne.symm h), ih1, ih2, Nat.max_comm]
theorem L_sub (x y : List α) : ∃ z : List α, z.Sublist x ∧ z.Sublist y ∧ z.length = L x y := by
 fun_induction L x y with
 | case1 y => exact ⟨[], by simp, by simp, rfl⟩
 | case2 u x => exact ⟨[], by simp, by simp, rfl⟩
 | case3 x v y ih =>
  obtain ⟨z, h1, h2, h3⟩ := ih
  exact ⟨v :: z, h1.cons_cons _, h2.cons_cons _, by simp [h3]⟩
 | case4 u x v y h ih1 ih2 =>
  obtain ⟨z, h1, h2, h3⟩ := ih1
  obtain ⟨z', h1', h2', h3'⟩ := ih2
  rcases Nat.le_total (L x (v :: y)) (L (u :: x) y) with hle | hle
  ·exact ⟨z', h1', h2'.cons _, by rw [h3']; omega⟩
  ·exact ⟨z, h1.cons _, h2, by rw [h3]; omega⟩
omit [DecidableEq α] in
theorem sub_tail {z x : List α} {u w : α} (h : (w :: z).Sublist (u :: x)) : z.Sublist x := by
 cases h with
 | cons _ h => exact (List.sublist_cons_self _ _).trans h
 | cons_cons _ h => exact h
theorem L_max (x y : List α) : ∀ z : List α, z.Sublist x → z.Sublist y → z.length ≤ L x y := by
 fun_induction L x y with
 | case1 y => intro z h _; simp [List.sublist_nil.1 h]
 | case2 u x => intro z _ h; simp [List.sublist_nil.1 h]
 | case3 x y v ih =>
  intro z h1 h2
  cases z with
  | nil => simp
  | cons w z => have := ih z (sub_tail h1) (sub_tail h2); simp; omega
 | case4 u x v y h ih1 ih2 =>
  intro z h1 h2
  cases h1 with
  | cons _ h1' => have := ih1 z h1' h2; omega
  | cons_cons _ h1' =>
   cases h2 with
   | cons _ h2' => have := ih2 _ (h1'.cons_cons _) h2'; omega
   | cons_cons _ h2' => exact absurd rfl h
theorem L_le_left (x y : List α) : L x y ≤ x.length := by
 obtain ⟨z, h, _, e⟩ := L_sub x y
 rw [← e]; exact h.length_le
theorem L_le_right (x y : List α) : L x y ≤ y.length := by
 obtain ⟨z, _, h, e⟩ := L_sub x y
 rw [← e]; exact h.length_le
theorem L_cons_right (u : α) (x y : List α) : L x (u :: y) ≤ L x y + 1 := by
 obtain ⟨z, h1, h2, h3⟩ := L_sub x (u :: y)
 cases z with
 | nil => simp at h3; omega
 | cons w z =>
  have := L_max x y z ((List.sublist_cons_self _ _).trans h1) (sub_tail h2)
  simp at h3; omega
theorem L_cons_left (u : α) (x y : List α) : L (u :: x) y ≤ L x y + 1 := by rw [L_comm, L_comm x]; exact L_cons_right u y x
theorem L_three (u v : α) (x y : List α) : L (u :: x) (v :: y) = if u = v then max (max (L x (v :: y)) (L (u :: x) y)) (L x y + 1) else max (L x (v :: y)) (L (u :: x) y) := by
 rw [L_cons_cons]
 have h1 := L_cons_right v x y
 have h2 := L_cons_left u x y
 split
 ·omega
 ·rfl
theorem L_rev_le (x y : List α) : L x y ≤ L x.reverse y.reverse := by
 obtain ⟨z, h1, h2, h3⟩ := L_sub x y
 have := L_max x.reverse y.reverse z.reverse (List.reverse_sublist.2 h1) (List.reverse_sublist.2 h2)
 simpa [h3] using this
theorem L_rev (x y : List α) : L x.reverse y.reverse = L x y := by
 have h1 := L_rev_le x y
 have h2 := L_rev_le x.reverse y.reverse
 simp at h2
 omega
theorem L_pre (p x y : List α) : L (p ++ x) (p ++ y) = p.length + L x y := by
 induction p with
 | nil => simp
 | cons u p ih => simp only [List.cons_append, L_cons_cons, ih, if_pos, List.length_cons]; omega
theorem L_suf (x y s : List α) : L (x ++ s) (y ++ s) = L x y + s.length := by
 rw [← L_rev, List.reverse_append, List.reverse_append, L_pre, L_rev]
 simp; omega
def ext (cur : Option Hk) (i j i' j' : Nat) : Hk := match cur with
 | some h => { h with a1 := i', b1 := j' }
 | none => ⟨i, i', j, j'⟩
def walk (cur : Option Hk) (x y : List α) (i j : Nat) : List Hk := match x, y with
 | [], [] => cur.toList
 | _ :: x, [] => walk (some (ext cur i j (i + 1) j)) x [] (i + 1) j
 | [], _ :: y => walk (some (ext cur i j i (j + 1))) [] y i (j + 1)
 | u :: x, v :: y =>
  if u = v then cur.toList ++ walk none x y (i + 1) (j + 1)
  else if L (u :: x) y ≤ L x (v :: y) then walk (some (ext cur i j (i + 1) j)) x (v :: y) (i + 1) j
  else walk (some (ext cur i j i (j + 1))) (u :: x) y i (j + 1)
termination_by x.length + y.length
theorem walk_nil_nil (cur : Option Hk) (i j : Nat) : walk cur ([] : List α) [] i j = cur.toList := by rw [walk]
theorem walk_cons_nil (cur : Option Hk) (u : α) (x : List α) (i j : Nat) : walk cur (u :: x) [] i j = walk (some (ext cur i j (i + 1) j)) x [] (i + 1) j := by rw [walk]
theorem walk_nil_cons (cur : Option Hk) (v : α) (y : List α) (i j : Nat) : walk cur [] (v :: y) i j = walk (some (ext cur i j i (j + 1))) [] y i (j + 1) := by rw [walk]
theorem walk_same (cur : Option Hk) (u : α) (x y : List α) (i j : Nat) : walk cur (u :: x) (u :: y) i j = cur.toList ++ walk none x y (i + 1) (j + 1) := by rw [walk, if_pos rfl]
theorem walk_gone (cur : Option Hk) {u v : α} (x y : List α) (i j : Nat) (h : u ≠ v) (hL : L (u :: x) y ≤ L x (v :: y)) : walk cur (u :: x) (v :: y) i j = walk (some (ext cur i j (i + 1) j)) x (v :: y) (i + 1) j := by rw [walk, if_neg h, if_pos hL]
theorem walk_new (cur : Option Hk) {u v : α} (x y : List α) (i j : Nat) (h : u ≠ v) (hL : ¬ L (u :: x) y ≤ L x (v :: y)) : walk cur (u :: x) (v :: y) i j = walk (some (ext cur i j i (j + 1))) (u :: x) y i (j + 1) := by rw [walk, if_neg h, if_neg hL]
def diff (a b : List α) : List Hk :=
 let p := pre a b
 let e := suf (a.drop p) (b.drop p)
 walk none ((a.drop p).take (a.length - e - p)) ((b.drop p).take (b.length - e - p)) p p
theorem diff_parts (a b : List α) : ∃ p x y s : List α, a = p ++ x ++ s ∧ b = p ++ y ++ s ∧ diff a b = walk none x y p.length p.length := by
 have h1 := pre_le_left a b
 have h2 := pre_le_right a b
 have ht := pre_take a b
 generalize hp : pre a b = p at *
 have h3 := suf_le_left (a.drop p) (b.drop p)
 have h4 := suf_le_right (a.drop p) (b.drop p)
 have hd := suf_drop (a.drop p) (b.drop p)
 generalize he : suf (a.drop p) (b.drop p) = e at *
 simp only [List.length_drop] at h3 h4 hd
 refine ⟨a.take p, (a.drop p).take (a.length - e - p), (b.drop p).take (b.length - e - p), (a.drop p).drop (a.length - p - e), ?_, ?_, ?_⟩
 ·rw [List.append_assoc, show a.length - e - p = a.length - p - e by omega, List.take_append_drop, List.take_append_drop]
 ·rw [hd, ht, List.append_assoc, show b.length - e - p = b.length - p - e by omega, List.take_append_drop, List.take_append_drop]
 ·simp only [diff, hp, he, List.length_take]
  rw [Nat.min_eq_left h1]
def Ok (a b : List α) : Nat → Nat → Bool → List Hk → Prop
 | i, j, _, [] => i ≤ a.length ∧ j ≤ b.length ∧ a.drop i = b.drop j
 | i, j, f, h :: t => i ≤ h.a0 ∧ j ≤ h.b0 ∧ h.a0 ≤ h.a1 ∧ h.b0 ≤ h.b1 ∧ h.a1 ≤ a.length ∧ h.b1 ≤ b.length ∧ (h.a0 < h.a1 ∨ h.b0 < h.b1) ∧ h.a0 - i = h.b0 - j ∧ (f = false → i < h.a0) ∧
   (a.drop i).take (h.a0 - i) = (b.drop j).take (h.a0 - i) ∧ Ok a b h.a1 h.b1 false t
def Mid (a b : List α) (i0 j0 : Nat) (f : Bool) (i j : Nat) : Option Hk → Prop
 | none => i0 ≤ i ∧ j0 ≤ j ∧ i - i0 = j - j0 ∧ (f = false → i0 < i) ∧ (a.drop i0).take (i - i0) = (b.drop j0).take (i - i0)
 | some h => h.a1 = i ∧ h.b1 = j ∧ i0 ≤ h.a0 ∧ j0 ≤ h.b0 ∧ h.a0 ≤ h.a1 ∧ h.b0 ≤ h.b1 ∧ (h.a0 < h.a1 ∨ h.b0 < h.b1) ∧ h.a0 - i0 = h.b0 - j0 ∧ (f = false → i0 < h.a0) ∧ (a.drop i0).take (h.a0 - i0) = (b.drop j0).take (h.a0 - i0)
omit [DecidableEq α] in
theorem Mid.ext {a b : List α} {i0 j0 : Nat} {f : Bool} {i j : Nat} {cur : Option Hk} (h : Mid a b i0 j0 f i j cur) {i' j' : Nat} (hi : i ≤ i') (hj : j ≤ j') (hn : i < i' ∨ j < j') :
  Mid a b i0 j0 f i' j' (some (ext cur i j i' j')) := by
 cases cur with
 | none =>
  obtain ⟨h1, h2, h3, h4, h5⟩ := h
  exact ⟨rfl, rfl, h1, h2, hi, hj, hn, h3, h4, h5⟩
 | some k =>
  obtain ⟨rfl, rfl, h1, h2, h3, h4, h5, h6, h7, h8⟩ := h
  exact ⟨rfl, rfl, h1, h2, Nat.le_trans h3 hi, Nat.le_trans h4 hj, by simp [LineLaw.ext]; omega, h6, h7, h8⟩
omit [DecidableEq α] in
theorem drop_tail {a x : List α} {i : Nat} {u : α} (h : a.drop i = u :: x) : a.drop (i + 1) = x ∧ i + 1 ≤ a.length := by
 have hlt : i < a.length := by
  rcases Nat.lt_or_ge i a.length with h1 | h1
  ·exact h1
  ·rw [List.drop_eq_nil_of_le h1] at h; cases h
 refine ⟨?_, hlt⟩
 rw [List.drop_eq_getElem_cons hlt] at h
 exact (List.cons.inj h).2
omit [DecidableEq α] in
theorem drop_take {a b : List α} {i0 i j0 j : Nat} (h1 : i0 ≤ i) (h2 : j0 ≤ j) (h3 : i - i0 = j - j0) (h : (a.drop i0).take (i - i0) = (b.drop j0).take (i - i0)) (hd : a.drop i = b.drop j) : a.drop i0 = b.drop j0 := by
 have e1 : a.drop i0 = (a.drop i0).take (i - i0) ++ a.drop i := by
  conv => lhs; rw [← List.take_append_drop (i - i0) (a.drop i0)]
  rw [List.drop_drop, show i0 + (i - i0) = i by omega]
 have e2 : b.drop j0 = (b.drop j0).take (i - i0) ++ b.drop j := by
  conv => lhs; rw [← List.take_append_drop (i - i0) (b.drop j0)]
  rw [List.drop_drop, show j0 + (i - i0) = j by omega]
 rw [e1, e2, h, hd]
omit [DecidableEq α] in
theorem take_more {a b x y : List α} {i0 i j0 j : Nat} {u : α} (h1 : i0 ≤ i) (h2 : j0 ≤ j) (h3 : i - i0 = j - j0) (h : (a.drop i0).take (i - i0) = (b.drop j0).take (i - i0)) (hx : a.drop i = u :: x) (hy : b.drop j = u :: y) :
  (a.drop i0).take (i + 1 - i0) = (b.drop j0).take (i + 1 - i0) := by
 have e1 : (a.drop i0)[i - i0]? = some u := by
  rw [List.getElem?_drop, show i0 + (i - i0) = i by omega]
  have := congrArg (·[0]?) hx
  simpa using this
 have e2 : (b.drop j0)[i - i0]? = some u := by
  rw [List.getElem?_drop, show j0 + (i - i0) = j by omega]
  have := congrArg (·[0]?) hy
  simpa using this
 rw [show i + 1 - i0 = i - i0 + 1 by omega, List.take_add_one, List.take_add_one, h, e1, e2]
theorem walk_ok (a b s : List α) (cur : Option Hk) (x y : List α) (i j : Nat) : ∀ i0 j0 f, a.drop i = x ++ s → b.drop j = y ++ s → i ≤ a.length → j ≤ b.length → Mid a b i0 j0 f i j cur → Ok a b i0 j0 f (walk cur x y i j) := by
 fun_induction walk cur x y i j with
 | case1 cur i j =>
  intro i0 j0 f hx hy hi hj h
  simp at hx hy
  cases cur with
  | none =>
   obtain ⟨h1, h2, h3, h4, h5⟩ := h
   exact ⟨by omega, by omega, drop_take h1 h2 h3 h5 (hx.trans hy.symm)⟩
  | some k =>
   obtain ⟨rfl, rfl, h1, h2, h3, h4, h5, h6, h7, h8⟩ := h
   exact ⟨h1, h2, h3, h4, hi, hj, h5, h6, h7, h8, hi, hj, hx.trans hy.symm⟩
 | case2 cur i j u x ih =>
  intro i0 j0 f hx hy hi hj h
  obtain ⟨e, hi'⟩ := drop_tail hx
  exact ih _ _ _ e hy hi' hj (h.ext (by omega) (by omega) (by omega))
 | case3 cur i j v y ih =>
  intro i0 j0 f hx hy hi hj h
  obtain ⟨e, hj'⟩ := drop_tail hy
  exact ih _ _ _ hx e hi hj' (h.ext (by omega) (by omega) (by omega))
 | case4 cur i j x v y ih =>
  intro i0 j0 f hx hy hi hj h
  obtain ⟨e, hi'⟩ := drop_tail hx
  obtain ⟨e', hj'⟩ := drop_tail hy
  cases cur with
  | none =>
   obtain ⟨h1, h2, h3, h4, h5⟩ := h
   exact ih _ _ _ e e' hi' hj' ⟨by omega, by omega, by omega, fun _ => by omega, take_more h1 h2 h3 h5 hx hy⟩
  | some k =>
   obtain ⟨rfl, rfl, h1, h2, h3, h4, h5, h6, h7, h8⟩ := h
   refine ⟨h1, h2, h3, h4, hi, hj, h5, h6, h7, h8, ih _ _ _ e e' hi' hj' ⟨by omega, by omega, by omega, fun _ => by omega, take_more (Nat.le_refl _) (Nat.le_refl _) (by omega) (by simp) hx hy⟩⟩
 | case5 cur i j u x v y hne hL ih =>
  intro i0 j0 f hx hy hi hj h
  obtain ⟨e, hi'⟩ := drop_tail hx
  exact ih _ _ _ e hy hi' hj (h.ext (by omega) (by omega) (by omega))
 | case6 cur i j u x v y hne hL ih =>
  intro i0 j0 f hx hy hi hj h
  obtain ⟨e, hj'⟩ := drop_tail hy
  exact ih _ _ _ hx e hi hj' (h.ext (by omega) (by omega) (by omega))
theorem diff_ok (a b : List α) : Ok a b 0 0 true (diff a b) := by
 obtain ⟨p, x, y, s, rfl, rfl, e⟩ := diff_parts a b
 rw [e]
 refine walk_ok _ _ s none x y _ _ 0 0 true ?_ ?_ ?_ ?_ ⟨Nat.zero_le _, Nat.zero_le _, rfl, nofun, ?_⟩
 ·simp [List.append_assoc]
 ·simp [List.append_assoc]
 ·simp; try omega
 ·simp; try omega
 ·simp [List.append_assoc]
def gone : List Hk → Int
 | [] => 0
 | h :: t => (h.a1 : Int) - h.a0 + gone t
def curGone : Option Hk → Int
 | none => 0
 | some h => (h.a1 : Int) - h.a0
theorem gone_append (s t : List Hk) : gone (s ++ t) = gone s + gone t := by
 induction s with
 | nil => simp [gone]
 | cons h s ih => simp [gone, ih]; omega
theorem gone_cur (cur : Option Hk) : gone cur.toList = curGone cur := by cases cur <;> simp [gone, curGone]
theorem walk_gone_len (cur : Option Hk) (x y : List α) (i j : Nat) : (∀ h, cur = some h → h.a1 = i) → gone (walk cur x y i j) = curGone cur + x.length - L x y := by
 fun_induction walk cur x y i j with
 | case1 cur i j => intro _; simp [gone_cur, L_nil_left]
 | case2 cur i j u x ih =>
  intro h
  rw [ih (by intro k hk; cases hk; cases cur <;> rfl), L_nil_right, L_nil_right]
  cases cur with
  | none => simp [curGone, ext]; omega
  | some k => have := h k rfl; simp [curGone, ext]; omega
 | case3 cur i j v y ih =>
  intro h
  rw [ih (by intro k hk; cases hk; cases cur <;> rfl), L_nil_left, L_nil_left]
  cases cur with
  | none => simp [curGone, ext]
  | some k => have := h k rfl; simp [curGone, ext]; omega
 | case4 cur i j x v y ih =>
  intro h
  rw [gone_append, gone_cur, ih (by simp), L_cons_cons, if_pos rfl]
  simp [curGone]; omega
 | case5 cur i j u x v y hne hL ih =>
  intro h
  rw [ih (by intro k hk; cases hk; cases cur <;> rfl), L_cons_cons, if_neg hne, Nat.max_eq_left hL]
  cases cur with
  | none => simp [curGone, ext]; omega
  | some k => have := h k rfl; simp [curGone, ext]; omega
 | case6 cur i j u x v y hne hL ih =>
  intro h
  rw [ih (by intro k hk; cases hk; cases cur <;> rfl), L_cons_cons u v, if_neg hne, Nat.max_eq_right (by omega)]
  cases cur with
  | none => simp [curGone, ext]
  | some k => have := h k rfl; simp [curGone, ext]; omega
theorem diff_gone (a b : List α) : gone (diff a b) = a.length - L a b := by
 obtain ⟨p, x, y, s, rfl, rfl, e⟩ := diff_parts a b
 rw [e, walk_gone_len none x y _ _ (by simp), L_suf, L_pre]
 simp [curGone]; omega
end
end LineLaw
namespace LineLaw
section
variable {α : Type} [DecidableEq α]
def sufP (a b : List α) : Nat := suf (a.drop (pre a b)) (b.drop (pre a b))
def big (a b : List α) : Prop := 1048576 < (a.length - sufP a b - pre a b) * (b.length - sufP a b - pre a b)
instance (a b : List α) : Decidable (big a b) := by unfold big; exact inferInstance
def diffC (a b : List α) : List Hk := if big a b then [⟨pre a b, a.length - sufP a b, pre a b, b.length - sufP a b⟩] else diff a b
def keptC (a b : List α) : Nat := if big a b then pre a b + sufP a b else L a b
def simC (a b : List α) : Int := if a.length + b.length = 0 then 100 else 200 * (keptC a b : Int) / ((a.length : Int) + b.length)
theorem sufP_left (a b : List α) : pre a b + sufP a b ≤ a.length := by
 have h1 := suf_le_left (a.drop (pre a b)) (b.drop (pre a b))
 have h2 := pre_le_left a b
 rw [List.length_drop] at h1
 unfold sufP
 omega
theorem sufP_right (a b : List α) : pre a b + sufP a b ≤ b.length := by
 have h1 := suf_le_right (a.drop (pre a b)) (b.drop (pre a b))
 have h2 := pre_le_right a b
 rw [List.length_drop] at h1
 unfold sufP
 omega
theorem keptC_left (a b : List α) : keptC a b ≤ a.length := by
 unfold keptC
 split
 ·exact sufP_left a b
 ·exact L_le_left a b
theorem keptC_right (a b : List α) : keptC a b ≤ b.length := by
 unfold keptC
 split
 ·exact sufP_right a b
 ·exact L_le_right a b
theorem diffC_gone (a b : List α) : gone (diffC a b) = a.length - keptC a b := by
 unfold diffC keptC
 split
 ·have := sufP_left a b
  simp [gone]
  omega
 ·exact diff_gone a b
theorem simC_range (a b : List α) : 0 ≤ simC a b ∧ simC a b ≤ 100 := by
 have h1 := keptC_left a b
 have h2 := keptC_right a b
 unfold simC
 split
 ·omega
 ·rename_i h
  refine ⟨Int.ediv_nonneg (by omega) (by omega), ?_⟩
  have : 200 * (keptC a b : Int) / ((a.length : Int) + b.length) < 101 := (Int.ediv_lt_iff_lt_mul (by omega)).2 (by omega)
  omega
end
end LineLaw
end Go.Proofs.YtphnfcgdpdimbaaGreatDoor
namespace Go.Proofs.YtphnfcgdpdimbaaGreatDoor
open Go.RowKit
theorem ret_nat {a : Int} {b : Nat} (h : a = b) : Ending.returned (.int .i64 a) = .returned (I b) := by rw [h]
theorem sl_rev {w : World} {A : Option Addr} {n k : Nat} {ss : List (List UInt8)} (h : Sl w 1 A n (strs ss)) (hk : k < n) : ∃ b off s, A = some ⟨b, off, none⟩ ∧ ss.reverse[k]? = some s ∧ w.cell? ⟨b, off + (n - 1 - k), none⟩ = some (S s) := by
 have hl := strs_len h
 obtain ⟨b, off, s, e, hs, hc⟩ := h.str (k := n - 1 - k) (by omega)
 refine ⟨b, off, s, e, ?_, hc⟩
 rw [List.getElem?_reverse (by omega), hl]; exact hs
theorem pre_here {ss ss' : List (List UInt8)} {P k : Nat} {s s' : List UInt8} (h : P = k + LineLaw.pre (ss.drop k) (ss'.drop k)) (hs : ss[k]? = some s) (hs' : ss'[k]? = some s') (e : s = s') : P = (k + 1) + LineLaw.pre (ss.drop (k + 1)) (ss'.drop (k + 1)) := by
 subst e
 rw [h, LineLaw.pre_step hs hs']; omega
theorem pre_ends {ss ss' : List (List UInt8)} {P k : Nat} (h : P = k + LineLaw.pre (ss.drop k) (ss'.drop k)) (hk : ss.length ≤ k ∨ ss'.length ≤ k) : (k : Int) = (P : Nat) := by
 rw [h, LineLaw.pre_end hk]; rfl
theorem pre_parts {ss ss' : List (List UInt8)} {P k : Nat} {s s' : List UInt8} (h : P = k + LineLaw.pre (ss.drop k) (ss'.drop k)) (hs : ss[k]? = some s) (hs' : ss'[k]? = some s') (hne : ¬ s = s') : (k : Int) = (P : Nat) := by
 rw [h, LineLaw.pre_stop hs hs' hne]; rfl
set_option maxHeartbeats 1000000 in
theorem begin_any (A A' : Option Addr) (n n' c c' : Nat) (ss ss' : List (List UInt8)) (w : World) (hA : Sl w 1 A n (strs ss)) (hA' : Sl w 1 A' n' (strs ss')) (hn : n ≤ 9223372036854775807) (_hn' : n' ≤ 9223372036854775807) :
  Calls Tryz.prog 275 #[.slice A n c, .slice A' n' c'] w fun e w' => e = .returned (I (LineLaw.pre ss ss' : Nat)) ∧ ∃ m, w' = w.drewN m := by
 have hl := Lib.hid (strs_len hA)
 have hl' := Lib.hid (strs_len hA')
 go_enter Tryz.func275, Tryz.ntmps275
 go_wp2
 go_loopw [5] (fun i wr => ∃ k m : Nat, k ≤ n ∧ k ≤ n' ∧ i = .int .i64 k ∧ wr = w.drewN m ∧ LineLaw.pre ss ss' = k + LineLaw.pre (ss.drop k) (ss'.drop k)) (fun i _ => n - (intOf i).toNat)
 case atStart => exact ⟨0, 0, Nat.zero_le _, Nat.zero_le _, rfl, rfl, by simp⟩
 case round =>
  obtain ⟨k, m, hk, hk', rfl, rfl, ht⟩ := hrel
  have Ht := Lib.hid ht
  clear ht
  by_cases hlt : k < n
  ·by_cases hlt' : k < n'
   ·obtain ⟨b, off, s, rfl, hs, hc⟩ := hA.str hlt
    obtain ⟨b', off', s', rfl, hs', hc'⟩ := hA'.str hlt'
    have Hs := Lib.hid hs
    have Hs' := Lib.hid hs'
    clear hs hs'
    go_wp2
    go_quiet (fail)
    go_wp2
    ·rename_i ht
     go_roundw
     case rel => exact ⟨k + 1, _, by omega, by omega, by go_num, rfl, pre_here Ht.out Hs.out Hs'.out (by simpa using ht)⟩
     case measure => simp [intOf]; omega
    ·rename_i ht
     go_ret
     exact ⟨ret_nat (pre_parts Ht.out Hs.out Hs'.out (by simpa using ht)), _, World.drewN_drewN _ _ _⟩
   ·go_wp2
    go_quiet (fail)
    go_wp2
    go_ret
    exact ⟨ret_nat (pre_ends Ht.out (.inr (by simp [hl'.out]; omega))), _, World.drewN_drewN _ _ _⟩
  ·go_wp2
   go_quiet (fail)
   go_wp2
   go_ret
   exact ⟨ret_nat (pre_ends Ht.out (.inl (by simp [hl.out]; omega))), _, World.drewN_drewN _ _ _⟩
set_option maxHeartbeats 1000000 in
theorem end_any (A A' : Option Addr) (n n' c c' : Nat) (ss ss' : List (List UInt8)) (w : World) (hA : Sl w 1 A n (strs ss)) (hA' : Sl w 1 A' n' (strs ss')) (hn : n ≤ 9223372036854775807) (hn' : n' ≤ 9223372036854775807) :
  Calls Tryz.prog 276 #[.slice A n c, .slice A' n' c'] w fun e w' => e = .returned (I (LineLaw.suf ss ss' : Nat)) ∧ ∃ m, w' = w.drewN m := by
 have hl := Lib.hid (strs_len hA)
 have hl' := Lib.hid (strs_len hA')
 go_enter Tryz.func276, Tryz.ntmps276
 go_wp2
 go_loopw [5] (fun i wr => ∃ k m : Nat, k ≤ n ∧ k ≤ n' ∧ i = .int .i64 k ∧ wr = w.drewN m ∧ LineLaw.suf ss ss' = k + LineLaw.pre (ss.reverse.drop k) (ss'.reverse.drop k)) (fun i _ => n - (intOf i).toNat)
 case atStart => exact ⟨0, 0, Nat.zero_le _, Nat.zero_le _, rfl, rfl, by simp [LineLaw.suf]⟩
 case round =>
  obtain ⟨k, m, hk, hk', rfl, rfl, ht⟩ := hrel
  have Ht := Lib.hid ht
  clear ht
  by_cases hlt : k < n
  ·by_cases hlt' : k < n'
   ·obtain ⟨b, off, s, rfl, hs, hc⟩ := sl_rev hA hlt
    obtain ⟨b', off', s', rfl, hs', hc'⟩ := sl_rev hA' hlt'
    have Hs := Lib.hid hs
    have Hs' := Lib.hid hs'
    clear hs hs'
    go_wp2
    go_quiet (fail)
    go_wp2
    ·rename_i ht
     go_roundw
     case rel => exact ⟨k + 1, _, by omega, by omega, by go_num, rfl, pre_here Ht.out Hs.out Hs'.out (by simpa using ht)⟩
     case measure => simp [intOf]; omega
    ·rename_i ht
     go_ret
     exact ⟨ret_nat (pre_parts Ht.out Hs.out Hs'.out (by simpa using ht)), _, World.drewN_drewN _ _ _⟩
   ·go_wp2
    go_quiet (fail)
    go_wp2
    go_ret
    exact ⟨ret_nat (pre_ends Ht.out (.inr (by simp [hl'.out]; omega))), _, World.drewN_drewN _ _ _⟩
  ·go_wp2
   go_quiet (fail)
   go_wp2
   go_ret
   exact ⟨ret_nat (pre_ends Ht.out (.inl (by simp [hl.out]; omega))), _, World.drewN_drewN _ _ _⟩
end Go.Proofs.YtphnfcgdpdimbaaGreatDoor
