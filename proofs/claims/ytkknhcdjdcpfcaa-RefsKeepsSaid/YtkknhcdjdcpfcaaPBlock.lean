/- Pages of cells, as plain data. -/
import GoSem.Core.Value
namespace Go.Iso
set_option linter.all false

structure Pg where
  cls : Int
  used : List Bool
  cells : List Int
  deriving Inhabited
structure Pg.Ok (p : Pg) : Prop where
  used : p.used.length = 8
  cells : p.cells.length = 16
  cls : p.cls = -1 ∨ p.cls = 0 ∨ p.cls = 1 ∨ p.cls = 2
def cnt (us : List Bool) : Nat := us.count true
theorem cnt_le (us : List Bool) : cnt us ≤ us.length := List.count_le_length
theorem cnt_succ {us : List Bool} {k : Nat} (hk : k < us.length) : cnt (us.take (k + 1)) = cnt (us.take k) + if us.getD k false = true then 1 else 0 := by
  rw [List.take_succ_eq_append_getElem hk]
  simp only [cnt, List.count_append]
  have : us.getD k false = us[k] := by simp [hk]
  rw [this]
  cases us[k] <;> simp
def encPg (p : Pg) : List Value := .int .i64 p.cls :: (p.used.map Value.bool ++ p.cells.map (Value.int .i64))
def encPgs (ps : List Pg) : List Value := ps.flatMap encPg
/-- In the cells 'l' from 'off' on lies the page p. -/
def At (l : List Value) (off : Nat) (p : Pg) : Prop := (l.drop off).take 25 = encPg p

theorem encPg_length {p : Pg} (h : p.Ok) : (encPg p).length = 25 := by simp [encPg, h.used, h.cells]
theorem getElem?_of_take {α : Type} {l r : List α} {off n k : Nat} (h : (l.drop off).take n = r) (hk : k < r.length) : l[off + k]? = r[k]? := by
  subst h
  have hk' : k < n := by simp at hk; omega
  rw [List.getElem?_take_of_lt hk', List.getElem?_drop]
theorem take_take_drop {α : Type} {l r : List α} {off n : Nat} (a m : Nat) (h : (l.drop off).take n = r) (ha : a + m ≤ n) : (l.drop (off + a)).take m = (r.drop a).take m := by
  subst h
  rw [List.drop_take, List.drop_drop, List.take_take, Nat.min_eq_left (by omega)]
theorem At.cls {l : List Value} {off : Nat} {p : Pg} (h : At l off p) : l[off + 0]? = some (.int .i64 p.cls) := by
  rw [getElem?_of_take h (by simp [encPg])]; rfl
theorem At.used {l : List Value} {off : Nat} {p : Pg} (h : At l off p) (hp : p.Ok) : (l.drop (off + 1)).take 8 = p.used.map Value.bool := by
  rw [take_take_drop 1 8 h (by omega)]
  simp only [encPg, List.drop_succ_cons, List.drop_zero]
  rw [List.take_append_of_le_length (by simp [hp.used]), List.take_of_length_le (by simp [hp.used])]
theorem At.used1 {l : List Value} {off : Nat} {p : Pg} (h : At l off p) (hp : p.Ok) {k : Nat} (hk : k < 8) : l[off + 1 + k]? = some (.bool (p.used.getD k false)) := by
  have h1 := getElem?_of_take (k := k) (h.used hp) (by simp [hp.used, hk])
  rw [h1]
  have : k < p.used.length := by rw [hp.used]; exact hk
  simp [this]
theorem At.cells1 {l : List Value} {off : Nat} {p : Pg} (h : At l off p) (hp : p.Ok) {k : Nat} (hk : k < 16) : l[off + 9 + k]? = some (.int .i64 (p.cells.getD k 0)) := by
  have e : (l.drop (off + 9)).take 16 = p.cells.map (Value.int .i64) := by
    rw [take_take_drop 9 16 h (by omega)]
    simp only [encPg, List.drop_succ_cons]
    rw [List.drop_append_of_le_length (by simp [hp.used]), List.drop_of_length_le (by simp [hp.used]), List.nil_append, List.take_of_length_le (by simp [hp.cells])]
  have h1 := getElem?_of_take (k := k) e (by simp [hp.cells, hk])
  rw [h1]
  have : k < p.cells.length := by rw [hp.cells]; exact hk
  simp [this]
theorem encPgs_at {ps : List Pg} (hok : ∀ p ∈ ps, p.Ok) : ∀ {i : Nat} {p : Pg}, ps[i]? = some p → ∀ (sp : List Value), At (encPgs ps ++ sp) (i * 25) p := by
  induction ps with
  | nil => intro i p h; cases h
  | cons q ps ih =>
    intro i p h sp
    have hq := encPg_length (hok q (List.mem_cons_self ..))
    cases i with
    | zero =>
      simp at h; subst h
      simp only [At, encPgs, List.flatMap_cons, Nat.zero_mul, List.drop_zero, List.append_assoc]
      rw [List.take_append_of_le_length (by omega), List.take_of_length_le (by omega)]
    | succ i =>
      have := ih (fun p hp => hok p (List.mem_cons_of_mem _ hp)) (by simpa using h) sp
      simp only [At, encPgs, List.flatMap_cons, List.append_assoc] at this ⊢
      rw [show (i + 1) * 25 = 25 + i * 25 by omega, ← List.drop_drop, List.drop_append_of_le_length (by omega), List.drop_of_length_le (l := encPg q) (by omega), List.nil_append]
      exact this
theorem encPgs_length {ps : List Pg} (hok : ∀ p ∈ ps, p.Ok) : (encPgs ps).length = ps.length * 25 := by
  induction ps with
  | nil => rfl
  | cons q ps ih =>
    have hq := encPg_length (hok q (List.mem_cons_self ..))
    have := ih (fun p hp => hok p (List.mem_cons_of_mem _ hp))
    simp only [encPgs, List.flatMap_cons, List.length_append, List.length_cons] at this ⊢
    omega
/-- A cell of a page is written. -/
theorem set_encPgs {ps : List Pg} (hok : ∀ p ∈ ps, p.Ok) : ∀ {i j : Nat} {p p' : Pg} {v : Value}, ps[i]? = some p → j < 25 → (encPg p).set j v = encPg p' → (encPgs ps).set (i * 25 + j) v = encPgs (ps.set i p') := by
  induction ps with
  | nil => intro i j p p' v h; cases h
  | cons q ps ih =>
    intro i j p p' v h hj he
    have hq := encPg_length (hok q (List.mem_cons_self ..))
    cases i with
    | zero =>
      simp at h; subst h
      simp only [encPgs, List.flatMap_cons, List.set_cons_zero, Nat.zero_mul, Nat.zero_add]
      rw [List.set_append_left _ _ (by omega), he]
    | succ i =>
      have := ih (fun p hp => hok p (List.mem_cons_of_mem _ hp)) (by simpa using h) hj he
      simp only [encPgs, List.flatMap_cons, List.set_cons_succ] at this ⊢
      rw [List.set_append_right _ _ (by omega), ← this]
      congr 2
      omega
theorem set_cls (p : Pg) (c : Int) : (encPg p).set 0 (.int .i64 c) = encPg { p with cls := c } := rfl
theorem set_used {p : Pg} (hp : p.Ok) {k : Nat} (hk : k < 8) (b : Bool) : (encPg p).set (1 + k) (.bool b) = encPg { p with used := p.used.set k b } := by
  simp only [encPg, Nat.add_comm 1 k, List.set_cons_succ]
  rw [List.set_append_left _ _ (by simp [hp.used, hk]), List.map_set]
theorem set_cell {p : Pg} (hp : p.Ok) {k : Nat} (hk : k < 16) (n : Int) : (encPg p).set (9 + k) (.int .i64 n) = encPg { p with cells := p.cells.set k n } := by
  simp only [encPg, show 9 + k = (8 + k) + 1 by omega, List.set_cons_succ]
  rw [List.set_append_right _ _ (by simp [hp.used]), List.map_set]
  congr 3
  simp [hp.used]
end Go.Iso
