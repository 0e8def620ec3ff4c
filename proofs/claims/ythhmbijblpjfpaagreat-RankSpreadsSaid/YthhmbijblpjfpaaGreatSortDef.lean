/- Go's stable sort, as functions on lists; rows of elements in a block. -/
import Derived.Test.YthhmbijblpjfpaaGreatRank1
import Derived.Test.YthhmbijblpjfpaaGreatDet
namespace Go.Proofs.YthhmbijblpjfpaaGreat
open Go.RowKit

instance : Inhabited Tsk := ⟨noTsk⟩

section
variable {α : Type} [Inhabited α]
abbrev gt (l : List α) (i : Nat) : α := l.getD i default
def swp (l : List α) (i j : Nat) : List α := (l.set i (gt l j)).set j (gt l i)
theorem swp_len (l : List α) (i j : Nat) : (swp l i j).length = l.length := by simp [swp]

/-- the inner loop of the insertion sort -/
def insIn (lt : α → α → Bool) (a : Nat) : Nat → List α → List α
  | 0, l => l
  | j + 1, l => if a < j + 1 ∧ lt (gt l (j + 1)) (gt l j) = true then insIn lt a j (swp l (j + 1) j) else l
def insOut (lt : α → α → Bool) (a b : Nat) (i : Nat) (l : List α) : List α :=
  if i < b then insOut lt a b (i + 1) (insIn lt a i l) else l
termination_by b - i
def insSort (lt : α → α → Bool) (a b : Nat) (l : List α) : List α := insOut lt a b (a + 1) l

def swR (a b n : Nat) (i : Nat) (l : List α) : List α := if i < n then swR a b n (i + 1) (swp l (a + i) (b + i)) else l
termination_by n - i
/-- the loop of the rotation: i elements ahead of m, j behind it -/
def rotL (m : Nat) : Nat → Nat → List α → List α
  | i, j, l =>
    if h : i = 0 ∨ j = 0 then l
    else if i = j then swR (m - i) m i 0 l
    else if j < i then rotL m (i - j) j (swR (m - i) m j 0 l)
    else rotL m i (j - i) (swR (m - i) (m + j - i) i 0 l)
termination_by i j => i + j
def rot (a m b : Nat) (l : List α) : List α := rotL m (m - a) (b - m) l
/-- a search by halves: the first place from i on, below j, at which p fails -/
def bs (p : Nat → Bool) (i j : Nat) : Nat :=
  if i < j then if p ((i + j) / 2) then bs p ((i + j) / 2 + 1) j else bs p i ((i + j) / 2) else i
termination_by j - i
decreasing_by all_goals omega
/-- the element at k goes up to b -/
def upW (b : Nat) (k : Nat) (l : List α) : List α := if k < b then upW b (k + 1) (swp l k (k + 1)) else l
termination_by b - k
/-- the element at k goes down to i -/
def dnW (i : Nat) : Nat → List α → List α
  | 0, l => l
  | k + 1, l => if i < k + 1 then dnW i k (swp l (k + 1) k) else l
def symM (lt : α → α → Bool) : Nat → Nat → Nat → Nat → List α → List α
  | 0, _, _, _, l => l
  | f + 1, a, m, b, l =>
    if m - a = 1 then upW (bs (fun h => lt (gt l h) (gt l a)) m b - 1) a l
    else if b - m = 1 then dnW (bs (fun h => !lt (gt l m) (gt l h)) a m) m l
    else
      let mid := (a + b) / 2
      let n := mid + m
      let s := if mid < m then bs (fun c => !lt (gt l (n - 1 - c)) (gt l c)) (n - b) mid else bs (fun c => !lt (gt l (n - 1 - c)) (gt l c)) a m
      let e := n - s
      let l1 := if s < m ∧ m < e then rot s m e l else l
      let l2 := if a < s ∧ s < mid then symM lt f a s mid l1 else l1
      if mid < e ∧ e < b then symM lt f mid e b l2 else l2
end

/-- rows of k cells in one list of cells -/
theorem flat_len {α : Type} (enc : α → List Value) (k : Nat) (hk : ∀ x, (enc x).length = k) : ∀ l : List α, (l.flatMap enc).length = l.length * k
  | [] => by simp
  | x :: xs => by rw [List.flatMap_cons, List.length_append, hk, flat_len enc k hk xs, List.length_cons, Nat.add_mul, Nat.one_mul, Nat.add_comm]
theorem flat_get {α : Type} [Inhabited α] (enc : α → List Value) (k : Nat) (hk : ∀ x, (enc x).length = k) (rest : List Value) : ∀ (l : List α) (i j : Nat) (u : Value), i < l.length → (enc (gt l i))[j]? = some u →
    (l.flatMap enc ++ rest)[i * k + j]? = some u
  | [], i, j, u, h, _ => by simp at h
  | x :: xs, 0, j, u, _, hu => by
    have hj : j < (enc x).length := by
      have := (List.getElem?_eq_some_iff.1 hu).1
      simpa using this
    rw [List.flatMap_cons, Nat.zero_mul, Nat.zero_add, List.append_assoc, List.getElem?_append_left hj]
    simpa using hu
  | x :: xs, i + 1, j, u, h, hu => by
    have ih := flat_get enc k hk rest xs i j u (by simpa using h) (by simpa using hu)
    rw [List.flatMap_cons, List.append_assoc, List.getElem?_append_right (by rw [hk]; rw [Nat.add_mul]; omega), hk]
    rw [show (i + 1) * k + j - k = i * k + j from by rw [Nat.add_mul]; omega]
    exact ih
theorem flat_splice {α : Type} (enc : α → List Value) (k : Nat) (hk : ∀ x, (enc x).length = k) (rest : List Value) : ∀ (l : List α) (i : Nat) (y : α), i < l.length →
    splice (l.flatMap enc ++ rest) (i * k) (enc y) = (l.set i y).flatMap enc ++ rest
  | [], i, y, h => by simp at h
  | x :: xs, 0, y, _ => by
    simp only [splice, Nat.zero_mul, List.take_zero, List.nil_append, Nat.zero_add, List.set_cons_zero, List.flatMap_cons, List.append_assoc]
    rw [hk, ← hk x, List.drop_left]
  | x :: xs, i + 1, y, h => by
    have ih := flat_splice enc k hk rest xs i y (by simpa using h)
    unfold splice at ih ⊢
    rw [hk] at ih ⊢
    rw [List.set_cons_succ, List.flatMap_cons, List.flatMap_cons]
    simp only [List.append_assoc] at ih ⊢
    rw [← ih]
    rw [show (i + 1) * k = (enc x).length + i * k from by rw [hk, Nat.add_mul]; omega, List.take_length_add_append, show (enc x).length + i * k + k = (enc x).length + (i * k + k) from by omega, List.drop_length_add_append]
    try simp only [List.append_assoc]

/-- the tasks of a row lie at the head of block g -/
def RB (w : World) (g : Nat) (l : List Tsk) (rest : List Value) : Prop := Blk w g 36 (l.flatMap Tsk.row ++ rest)
theorem tsk_len (x : Tsk) : (Tsk.row x).length = 7 := rfl
theorem RB.at_ {w : World} {g : Nat} {l : List Tsk} {rest : List Value} (h : RB w g l rest) {i : Nat} (hi : i < l.length) : CellsAt w ⟨g, i * 7, none⟩ (Tsk.row (gt l i)) :=
  Blk.cellsAt h (i * 7) _ fun j u hu => flat_get Tsk.row 7 tsk_len rest l i j u hi hu
theorem RB.ext {w w' : World} {g : Nat} {l : List Tsk} {rest : List Value} (h : RB w g l rest) (e : Ext w w') : RB w' g l rest := Blk.ext h e
theorem RB.fit {g : Nat} {l : List Tsk} {rest : List Value} {i : Nat} (hi : i < l.length) (y : Tsk) : i * 7 + (Tsk.row y).length ≤ (l.flatMap Tsk.row ++ rest).length := by
  rw [List.length_append, flat_len Tsk.row 7 tsk_len, tsk_len]
  omega

/-- only block g, and what is new, has turned -/
abbrev Srt (g : Nat) (w w' : World) : Prop := w.grownBy w' (some g)
theorem Srt.rfl' {g : Nat} {w : World} : Srt g w w := World.grownBy.refl w _
theorem Srt.tr {g : Nat} {a b c : World} (h : Srt g a b) (k : Srt g b c) : Srt g a c := World.grownBy.trans h k
theorem Srt.of_ext {g : Nat} {a b : World} (h : Ext a b) : Srt g a b := ⟨h.os, h.tape, h.output, h.size, fun i hi _ => h.block i hi⟩
theorem Srt.of_only {g : Nat} {a b : World} (h : Only g a b) : Srt g a b := ⟨h.os, h.tape, h.output, Nat.le_of_eq h.size.symm, fun i _ hn => h.block i (fun e => hn (by rw [e]))⟩
theorem Srt.dr {g : Nat} {a b : World} (h : Srt g a b) : Srt g a b.drew := ⟨h.os, h.tape, h.output, h.size, h.block⟩
theorem Ext.srt {a b c : World} {g : Nat} (h : Ext a b) (hg : a.heap.size ≤ g) (k : Srt g b c) : Ext a c :=
  Below.trans h ⟨k.os, k.tape, k.output, k.size, fun i hi => k.block i (Nat.lt_of_lt_of_le hi h.size) (fun e => by injection e with e; omega)⟩
end Go.Proofs.YthhmbijblpjfpaaGreat
