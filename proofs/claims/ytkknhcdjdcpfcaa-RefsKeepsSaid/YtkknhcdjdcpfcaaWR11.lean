/- Walks of package isochronref11: there, In, used, slot, lay. -/
import Derived.Test.YtkknhcdjdcpfcaaInst
import Derived.Test.YtkknhcdjdcpfcaaWR10c
import Derived.Test.YtkknhcdjdcpfcaaXMk
namespace Go.Proofs.Ytkknhcdjdcpfcaa
open Go.Sl Go.Iso
set_option linter.all false

/-- An object of the document's heap. -/
structure RO where
  kind : Int
  cls : Int
  refs : List Bool
  slots : List Int
  blocks : List Nat
  deriving Inhabited, DecidableEq
/-- .. and where its slices lie. -/
structure RX where
  o : RO
  rp : Option Addr
  rc : Nat
  sp : Option Addr
  sc : Nat
  bp : Option Addr
  bc : Nat
  deriving Inhabited
def rV (x : RX) : List Value := [.int .i64 x.o.kind, .int .i64 x.o.cls, .slice x.rp x.o.refs.length x.rc, .slice x.sp x.o.slots.length x.sc, .slice x.bp x.o.blocks.length x.bc]
def encRs (l : List RX) : List Value := l.flatMap rV
theorem encRs_length : ∀ l : List RX, (encRs l).length = l.length * 5
  | [] => rfl
  | e :: l => by
    have := encRs_length l
    simp only [encRs, List.flatMap_cons, List.length_append, List.length_cons] at this ⊢
    rw [this]; simp [rV]; omega
theorem encRs_at : ∀ {l : List RX} {i : Nat} {e : RX}, l[i]? = some e → ((encRs l).drop (i * 5)).take 5 = rV e
  | [], i, e, h => by cases h
  | x :: l, 0, e, h => by
    simp at h; subst h
    simp [encRs, rV]
  | x :: l, i + 1, e, h => by
    have := encRs_at (l := l) (i := i) (by simpa using h)
    have e1 : encRs (x :: l) = rV x ++ encRs l := rfl
    rw [e1, show (i + 1) * 5 = 5 + i * 5 by omega, ← List.drop_drop]
    have e2 : (rV x ++ encRs l).drop 5 = encRs l := by simp [rV]
    rw [e2]; exact this
theorem encRs_get {l : List RX} {i j : Nat} {e : RX} {v : Value} (h : l[i]? = some e) (hv : (rV e)[j]? = some v) : (encRs l)[0 + i * 5 + j]? = some v := by
  have h1 := encRs_at h
  have hj : j < 5 := by
    have := (List.getElem?_eq_some_iff.1 hv).1
    simpa [rV] using this
  rw [Nat.zero_add, getElem?_of_take h1 (by simpa [rV] using hj)]
  exact hv
theorem encRs_set {x : RX} : ∀ {l : List RX} {i : Nat}, i < l.length → spl (encRs l) (0 + i * 5) (rV x) = encRs (l.set i x)
  | [], i, h => absurd h (Nat.not_lt_zero _)
  | y :: l, 0, h => by simp [encRs, rV, spl]
  | y :: l, i + 1, h => by
    have := encRs_set (x := x) (l := l) (i := i) (by simpa using h)
    have e1 : encRs (y :: l) = rV y ++ encRs l := rfl
    have e2 : encRs ((y :: l).set (i + 1) x) = rV y ++ encRs (l.set i x) := rfl
    rw [e1, e2, ← this, show 0 + (i + 1) * 5 = (rV y).length + (0 + i * 5) by simp [rV]; omega]
    exact spl_right (by rw [encRs_length]; simp [rV]; have : i < l.length := by simpa using h
                        omega)
def rO (x : RX) : List SP := [ownS 4 1 (.slice x.rp x.o.refs.length x.rc) (x.o.refs.map encBo), ownS 3 1 (.slice x.sp x.o.slots.length x.sc) (x.o.slots.map encI), ownS 3 1 (.slice x.bp x.o.blocks.length x.bc) (x.o.blocks.map encN)]
def rsA (rs : List RX) : SP := fun k => sep (rs.flatMap rO) k
/-- One object's slices are laid open. -/
theorem st_ro {β : Bs} {F : SP} {L M : List SP} {Y : World → Prop} {rs : List RX} {i : Nat} {x : RX} (hx : rs[i]? = some x) (r : Rem (rsA rs) L M)
    (K : ∀ R : SP, (∀ x' h, sep (rO x' ++ [R]) h → rsA (rs.set i x') h) → St β F (rO x ++ (R :: M)) Y) : St β F L Y := by
  obtain ⟨hi, rfl⟩ := List.getElem?_eq_some_iff.1 hx
  have e1 : rs = rs.take i ++ rs[i] :: rs.drop (i + 1) := by rw [← List.drop_eq_getElem_cons hi, List.take_append_drop]
  have e2 : ∀ x', rs.set i x' = rs.take i ++ x' :: rs.drop (i + 1) := fun x' => List.set_eq_take_append_cons_drop.trans (if_pos hi)
  have key : ∀ x' h, sep ((rs.take i ++ x' :: rs.drop (i + 1)).flatMap rO) h ↔ sep (rO x' ++ [fun k => sep ((rs.take i).flatMap rO ++ (rs.drop (i + 1)).flatMap rO) k]) h := by
    intro x' h
    rw [List.flatMap_append, List.flatMap_cons]
    constructor
    · intro s
      have s2 : sep (rO x' ++ ((rs.take i).flatMap rO ++ (rs.drop (i + 1)).flatMap rO)) h := sep_perm (by
        rw [← List.append_assoc, ← List.append_assoc]
        exact List.Perm.append_right _ List.perm_append_comm) s
      exact append_sep (star_mono (fun _ x => x) (fun _ y => star_true y) (sep_append s2))
    · intro s
      have s2 : sep (rO x' ++ ((rs.take i).flatMap rO ++ (rs.drop (i + 1)).flatMap rO)) h :=
        append_sep (star_mono (fun _ x => x) (fun _ y => by
          obtain ⟨h1, h2, d, e, y1, _⟩ := y
          exact sep_up (fun b o hb => by rw [e]; simp [un, hb]) y1) (sep_append s))
      exact sep_perm (by
        rw [← List.append_assoc, ← List.append_assoc]
        exact List.Perm.append_right _ List.perm_append_comm) s2
  refine st_open (As := rO rs[i] ++ [fun k => sep ((rs.take i).flatMap rO ++ (rs.drop (i + 1)).flatMap rO) k]) r (fun h s => ?_) ?_
  · refine (key _ h).1 ?_
    rw [← e1]; exact s
  · have := K (fun k => sep ((rs.take i).flatMap rO ++ (rs.drop (i + 1)).flatMap rO) k) (fun x' h s => by
      show sep ((rs.set i x').flatMap rO) h
      rw [e2]; exact (key x' h).2 s)
    simpa using this
theorem set_self {α : Type} {l : List α} {i : Nat} {x : α} (h : l[i]? = some x) : l.set i x = l := by
  obtain ⟨hi, rfl⟩ := List.getElem?_eq_some_iff.1 h
  exact List.set_getElem_self hi

abbrev rh2 (h bo p nn : Nat) (rs : List RX) : List SP := [cel h [.slice (some ⟨bo, 0, none⟩) nn nn, .pointer (some ⟨p, 0, none⟩)] 69, cel bo (encRs rs) 73]
/-- Is a handle in use? -/
def inR (os : List RO) (k : Int) : Bool := decide (1 ≤ k ∧ k < (os.length : Int)) && decide ((os.getD k.toNat default).kind ≠ 0)
section
variable {h bo p nn : Nat} {rs : List RX}
theorem r11There : C Try.prog 25 [.pointer (some ⟨h, 0, none⟩)] (rh2 h bo p nn rs) (fun v L' => v = .bool true ∧ L' = rh2 h bo p nn rs) := by
  refine C_enter1 Try.func25 rfl rfl rfl fun β F => ?_
  refine go ?_
  refine WT_ret (rs := [.tmp 2]) Try.func25 rfl rfl ⟨rfl, rfl⟩
theorem rs_get (hl : rs.length = nn) {m : Nat} (hm : m < nn) : ∃ x, rs[m]? = some x ∧ (rs.map (·.o)).getD m default = x.o := by
  have hm' : m < rs.length := by omega
  exact ⟨rs[m], by simp, by simp [hm']⟩
theorem r11In (hl : rs.length = nn) (k : Int) : C Try.prog 7 [.pointer (some ⟨h, 0, none⟩), .int .i64 k] (rh2 h bo p nn rs) (fun v L' => v = .bool (inR (rs.map (·.o)) k) ∧ L' = rh2 h bo p nn rs) := by
  refine C_enter2 Try.func7 rfl rfl rfl fun β F => ?_
  refine go ?_
  refine call r11There ?_
  rintro _ _ ⟨rfl, rfl⟩
  by_cases h0 : 1 ≤ k
  · by_cases h1 : k < (nn : Int)
    · obtain ⟨m, rfl⟩ : ∃ m : Nat, k = (m : Int) := ⟨k.toNat, by omega⟩
      obtain ⟨x, hx, hg⟩ := rs_get hl (show m < nn by omega)
      have hat := encRs_get (j := 0) hx rfl
      by_cases h2 : x.o.kind = 0
      · refine go ?_
        refine WT_ret (rs := [.tmp 4]) Try.func7 rfl rfl ⟨?_, rfl⟩
        have e : inR (rs.map (·.o)) (m : Int) = false := by simp only [inR, Int.toNat_natCast, hg, h2]; simp
        rw [e]; rfl
      · refine go ?_
        refine WT_ret (rs := [.tmp 4]) Try.func7 rfl rfl ⟨?_, rfl⟩
        have e : inR (rs.map (·.o)) (m : Int) = true := by simp only [inR, Int.toNat_natCast, hg, List.length_map, hl, decide_eq_true (show (1 : Int) ≤ m ∧ (m : Int) < (nn : Int) from ⟨h0, h1⟩)]; simp [h2]
        rw [e]; rfl
    · refine go ?_
      refine WT_ret (rs := [.tmp 4]) Try.func7 rfl rfl ⟨?_, rfl⟩
      have e : inR (rs.map (·.o)) k = false := by simp only [inR, List.length_map, hl, decide_eq_false (show ¬ (1 ≤ k ∧ k < (nn : Int)) from fun h => h1 h.2)]; rfl
      rw [e]; rfl
  · refine go ?_
    refine WT_ret (rs := [.tmp 4]) Try.func7 rfl rfl ⟨?_, rfl⟩
    have e : inR (rs.map (·.o)) k = false := by simp only [inR, List.length_map, hl, decide_eq_false (show ¬ (1 ≤ k ∧ k < (nn : Int)) from fun h => h0 h.1)]; rfl
    rw [e]; rfl
theorem r11Used (hl : rs.length = nn) (k : Int) : C Try.prog 50 [.pointer (some ⟨h, 0, none⟩), .int .i64 k] (rh2 h bo p nn rs) (fun v L' => v = .int .i64 (if inR (rs.map (·.o)) k = true then 0 else 3) ∧ L' = rh2 h bo p nn rs) := by
  refine C_enter2 Try.func50 rfl rfl rfl fun β F => ?_
  refine go ?_
  refine call r11There ?_
  rintro _ _ ⟨rfl, rfl⟩
  refine go ?_
  refine call (r11In hl k) ?_
  rintro _ _ ⟨rfl, rfl⟩
  cases hi : inR (rs.map (·.o)) k with
  | true =>
    refine go ?_
    refine WT_ret (rs := [.tmp 4]) Try.func50 rfl rfl ⟨rfl, rfl⟩
  | false =>
    refine go ?_
    refine WT_ret (rs := [.tmp 4]) Try.func50 rfl rfl ⟨rfl, rfl⟩
theorem inR_get (hl : rs.length = nn) {k : Int} (h : inR (rs.map (·.o)) k = true) : ∃ (m : Nat) (x : RX), k = (m : Int) ∧ m < nn ∧ rs[m]? = some x ∧ (rs.map (·.o))[m]? = some x.o ∧ x.o.kind ≠ 0 := by
  simp only [inR, Bool.and_eq_true, decide_eq_true_eq, List.length_map, hl] at h
  obtain ⟨m, rfl⟩ : ∃ m : Nat, k = (m : Int) := ⟨k.toNat, by omega⟩
  have hm : m < nn := by omega
  obtain ⟨x, hx, hg⟩ := rs_get hl hm
  refine ⟨m, x, rfl, hm, hx, by simp [hx], ?_⟩
  have := h.2
  rw [Int.toNat_natCast, hg] at this
  exact this
/-- The error of a handle and a slot. -/
def slotE (os : List RO) (k s : Int) : Int := if inR os k = true then (if 0 ≤ s ∧ s < ((os.getD k.toNat default).slots.length : Int) then 0 else 1) else 3
theorem r11Slot (hl : rs.length = nn) (k s : Int) : C Try.prog 47 [.pointer (some ⟨h, 0, none⟩), .int .i64 k, .int .i64 s] (rh2 h bo p nn rs) (fun v L' => v = .int .i64 (slotE (rs.map (·.o)) k s) ∧ L' = rh2 h bo p nn rs) := by
  refine C_enter3 Try.func47 rfl rfl rfl fun β F => ?_
  refine go ?_
  refine call (r11Used hl k) ?_
  rintro _ _ ⟨rfl, rfl⟩
  by_cases hi : inR (rs.map (·.o)) k = true
  · rw [if_pos hi]
    obtain ⟨m, x, rfl, hm, hx, hg, _⟩ := inR_get hl hi
    have hat := encRs_get (j := 3) hx rfl
    have hgd : (rs.map (·.o)).getD m default = x.o := by rw [List.getD_eq_getElem?_getD, hg]; rfl
    have eS : slotE (rs.map (·.o)) (m : Int) s = if 0 ≤ s ∧ s < (x.o.slots.length : Int) then 0 else 1 := by rw [slotE, if_pos hi, Int.toNat_natCast, hgd]
    rw [eS]
    by_cases h0 : 0 ≤ s
    · by_cases h1 : s < (x.o.slots.length : Int)
      · rw [if_pos ⟨h0, h1⟩]
        refine go ?_
        refine WT_ret (rs := [.tmp 6]) Try.func47 rfl rfl ⟨rfl, rfl⟩
      · rw [if_neg (fun h => h1 h.2)]
        refine go ?_
        refine WT_ret (rs := [.tmp 6]) Try.func47 rfl rfl ⟨rfl, rfl⟩
    · rw [if_neg (fun h => h0 h.1)]
      refine go ?_
      refine WT_ret (rs := [.tmp 6]) Try.func47 rfl rfl ⟨rfl, rfl⟩
  · rw [if_neg hi]
    have eS : slotE (rs.map (·.o)) k s = 3 := by rw [slotE, if_neg hi]
    rw [eS]
    refine go ?_
    refine WT_ret (rs := [.tmp 6]) Try.func47 rfl rfl ⟨rfl, rfl⟩
end
end Go.Proofs.Ytkknhcdjdcpfcaa
