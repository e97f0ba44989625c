/- Plain laws: what the marker reaches. -/
import Derived.Test.YtkknhcdjdcpfcaaWRefs5
namespace Go.Proofs.Ytkknhcdjdcpfcaa
open Go.Sl Go.Iso
set_option linter.all false

abbrev cl (col : Col) (k : Int) : Int := (col k).getD 0
theorem cl_cset (col : Col) (k x j : Int) : cl (cset col k x) j = if j = k then x else cl col j := by
  simp only [cl, cset]; split <;> rfl
/-- What a handle refers to. -/
def sucH (H : HS) (k : Int) : List Int := match lookT H.ths k with
  | some X => refsP H.ps X X.len
  | none => []
structure GrOk (H : HS) (N : Nat) : Prop where
  ths : ∀ k X, lookT H.ths k = some X → ThOk H.ps X
  refs : ∀ k, ∀ y ∈ sucH H k, usedB H y = true ∧ y ≠ 0
  dom : ∀ k, usedB H k = true → 1 ≤ k ∧ k ≤ (N : Int)
  small : N ≤ 100
inductive Rch (H : HS) (Rt : Int → Prop) : Int → Prop
  | root {k : Int} : Rt k → usedB H k = true → k ≠ 0 → Rch H Rt k
  | edge {x y : Int} : Rch H Rt x → y ∈ sucH H x → Rch H Rt y
theorem Rch.mono {H : HS} {Rt Rt' : Int → Prop} (h : ∀ k, Rt k → Rt' k) {k : Int} (r : Rch H Rt k) : Rch H Rt' k := by
  induction r with
  | root a b c => exact .root (h _ a) b c
  | edge _ b ih => exact .edge ih b
/-- The colors and the gray list. -/
structure Mk (H : HS) (Rt ex : Int → Prop) (col : Col) (l : List Int) : Prop where
  nd : l.Nodup
  mem : ∀ k, k ∈ l ↔ cl col k = 1
  three : ∀ k, cl col k = 0 ∨ cl col k = 1 ∨ cl col k = 2
  sub : ∀ k, cl col k ≠ 0 → Rch H Rt k
  blk : ∀ k, cl col k = 2 → ¬ ex k → ∀ y ∈ sucH H k, cl col y ≠ 0
theorem Mk.mono {H : HS} {Rt Rt' ex : Int → Prop} {col : Col} {l : List Int} (m : Mk H Rt ex col l) (h : ∀ k, Rt k → Rt' k) : Mk H Rt' ex col l :=
  ⟨m.nd, m.mem, m.three, fun k hk => (m.sub k hk).mono h, m.blk⟩
section
variable {H : HS} {Rt ex : Int → Prop} {col : Col} {l : List Int} {N : Nat}
theorem rch_used (g : GrOk H N) {k : Int} (h : Rch H Rt k) : usedB H k = true ∧ k ≠ 0 := by
  induction h with
  | root _ b c => exact ⟨b, c⟩
  | edge _ b _ => exact g.refs _ _ b
theorem shade_mk {k : Int} (m : Mk H Rt ex col l) (hr : k ≠ 0 → usedB H k = true → Rch H Rt k) :
    Mk H Rt ex (shadeP H (col, l) k).1 (shadeP H (col, l) k).2 ∧ (∀ j, cl col j ≠ 0 → cl (shadeP H (col, l) k).1 j = cl col j) ∧ (∀ j, cl (shadeP H (col, l) k).1 j = 2 → cl col j = 2) ∧ (k ≠ 0 → usedB H k = true → cl (shadeP H (col, l) k).1 k ≠ 0) := by
  by_cases hc : k ≠ 0 ∧ usedB H k = true ∧ cl col k = 0
  · have e : shadeP H (col, l) k = (cset col k 1, l ++ [k]) := by rw [shadeP, if_pos hc]
    rw [e]
    have hkl : k ∉ l := fun h => by have := (m.mem k).1 h; rw [hc.2.2] at this; cases this
    refine ⟨⟨?_, fun j => ?_, fun j => ?_, fun j hj => ?_, fun j hj hex y hy => ?_⟩, fun j hj => ?_, fun j hj => ?_, fun _ _ => ?_⟩
    · rw [List.nodup_append]
      exact ⟨m.nd, by simp, fun a ha b hb => by rw [List.mem_singleton.1 hb]; exact fun h => hkl (h ▸ ha)⟩
    · rw [List.mem_append, List.mem_singleton, cl_cset, m.mem j]
      by_cases h : j = k
      · simp [h]
      · simp [h]
    · rw [cl_cset]; split
      · exact .inr (.inl rfl)
      · exact m.three j
    · rw [cl_cset] at hj
      by_cases h : j = k
      · rw [h]; exact hr hc.1 hc.2.1
      · rw [if_neg h] at hj; exact m.sub j hj
    · rw [cl_cset] at hj ⊢
      by_cases h : j = k
      · rw [if_pos h] at hj; cases hj
      · rw [if_neg h] at hj
        split
        · decide
        · exact m.blk j hj hex y hy
    · rw [cl_cset, if_neg]; intro h; rw [h] at hj; exact hj hc.2.2
    · rw [cl_cset] at hj
      by_cases h : j = k
      · rw [if_pos h] at hj; cases hj
      · rwa [if_neg h] at hj
    · rw [cl_cset, if_pos rfl]; decide
  · have e : shadeP H (col, l) k = (col, l) := by rw [shadeP, if_neg hc]
    rw [e]
    exact ⟨m, fun _ _ => rfl, fun _ h => h, fun h1 h2 h3 => hc ⟨h1, h2, h3⟩⟩
theorem shades_mk : ∀ {xs : List Int} {col : Col} {l : List Int}, Mk H Rt ex col l → (∀ k ∈ xs, k ≠ 0 → usedB H k = true → Rch H Rt k) →
    Mk H Rt ex (xs.foldl (shadeP H) (col, l)).1 (xs.foldl (shadeP H) (col, l)).2 ∧ (∀ j, cl col j ≠ 0 → cl (xs.foldl (shadeP H) (col, l)).1 j = cl col j) ∧ (∀ j, cl (xs.foldl (shadeP H) (col, l)).1 j = 2 → cl col j = 2) ∧ (∀ k ∈ xs, k ≠ 0 → usedB H k = true → cl (xs.foldl (shadeP H) (col, l)).1 k ≠ 0)
  | [], col, l, m, _ => ⟨m, fun _ _ => rfl, fun _ h => h, fun k hk => by cases hk⟩
  | x :: xs, col, l, m, hr => by
    obtain ⟨m1, a1, b1, c1⟩ := shade_mk m (hr x (List.mem_cons_self ..))
    obtain ⟨m2, a2, b2, c2⟩ := shades_mk (xs := xs) m1 (fun k hk => hr k (List.mem_cons_of_mem _ hk))
    simp only [List.foldl_cons]
    refine ⟨m2, fun j hj => ?_, fun j hj => b1 j (b2 j hj), fun k hk h0 hu => ?_⟩
    · rw [a2 j (by rw [a1 j hj]; exact hj), a1 j hj]
    · rcases List.mem_cons.1 hk with rfl | hk
      · rw [a2 _ (c1 h0 hu)]; exact c1 h0 hu
      · exact c2 k hk h0 hu
theorem countP_lt {p q : Nat → Bool} (h : ∀ x, q x = true → p x = true) {a : Nat} (hp : p a = true) (hq : q a = false) : ∀ {l : List Nat}, a ∈ l → l.countP q < l.countP p
  | b :: l, hm => by
    rw [List.countP_cons, List.countP_cons]
    rcases List.mem_cons.1 hm with rfl | hm
    · rw [hq, hp]
      have := List.countP_mono_left (l := l) (p := q) (q := p) (fun x _ => h x)
      simp; omega
    · have ih := countP_lt h hp hq hm
      have : (if q b = true then 1 else 0) ≤ (if p b = true then 1 else 0) := by
        cases hb : q b with
        | false => simp
        | true => rw [h b hb]; simp
      omega
/-- How many handles are not black. -/
def nb (N : Nat) (col : Col) : Nat := (List.range (N + 1)).countP fun i : Nat => decide (cl col (i : Int) ≠ 2)
theorem nb_le (N : Nat) (col : Col) : nb N col ≤ N + 1 := by
  have := List.countP_le_length (p := fun i : Nat => decide (cl col (i : Int) ≠ 2)) (l := List.range (N + 1))
  rw [List.length_range] at this
  exact this
theorem mk_len (g : GrOk H N) (m : Mk H Rt ex col l) : l.length ≤ 101 := by
  have h1 : l ⊆ (List.range (N + 1)).map (fun i : Nat => (i : Int)) := fun k hk => by
    have h2 := rch_used g (m.sub k (by rw [(m.mem k).1 hk]; decide))
    have h3 := g.dom k h2.1
    refine List.mem_map.2 ⟨k.toNat, List.mem_range.2 (by omega), by omega⟩
  have h4 := m.nd.length_le_of_subset h1
  have h5 := g.small
  simp at h4; omega
theorem step_mk (g : GrOk H N) {x : Int} {r : List Int} {X : Th} (m : Mk H Rt (fun _ => False) col (x :: r)) (hX : lookT H.ths x = some X) :
    Mk H Rt (fun _ => False) (stepP H col x r X).1 (stepP H col x r X).2 ∧ (∀ j, cl col j ≠ 0 → cl (stepP H col x r X).1 j ≠ 0) ∧ nb N (stepP H col x r X).1 < nb N col := by
  have hsx : sucH H x = refsP H.ps X X.len := by simp only [sucH, hX]
  have hx1 : cl col x = 1 := (m.mem x).1 (List.mem_cons_self ..)
  have hxr : Rch H Rt x := m.sub x (by rw [hx1]; decide)
  have hnd := List.nodup_cons.1 m.nd
  have m1 : Mk H Rt (fun k => k = x) (cset col x 2) r := by
    refine ⟨hnd.2, fun k => ?_, fun k => ?_, fun k hk => ?_, fun k hk hex y hy => ?_⟩
    · rw [cl_cset]
      by_cases h : k = x
      · subst h; rw [if_pos rfl]
        exact ⟨fun h => absurd h hnd.1, fun h => by cases h⟩
      · rw [if_neg h, ← m.mem k, List.mem_cons]
        simp [h]
    · rw [cl_cset]; split
      · exact .inr (.inr rfl)
      · exact m.three k
    · rw [cl_cset] at hk
      by_cases h : k = x
      · rw [h]; exact hxr
      · rw [if_neg h] at hk; exact m.sub k hk
    · rw [cl_cset] at hk ⊢
      have h : k ≠ x := hex
      rw [if_neg h] at hk
      split
      · decide
      · exact m.blk k hk (fun h => h) y hy
  obtain ⟨m2, a2, b2, c2⟩ := shades_mk (xs := refsP H.ps X X.len) m1 (fun k hk _ _ => .edge hxr (by rw [hsx]; exact hk))
  have hx2 : cl (stepP H col x r X).1 x = 2 := by
    have := a2 x (by rw [cl_cset, if_pos rfl]; decide)
    rw [cl_cset, if_pos rfl] at this
    exact this
  refine ⟨⟨m2.nd, m2.mem, m2.three, m2.sub, fun k hk _ y hy => ?_⟩, fun j hj => ?_, ?_⟩
  · by_cases h : k = x
    · subst h
      have h1 := g.refs _ _ hy
      rw [hsx] at hy
      exact c2 y hy h1.2 h1.1
    · exact m2.blk k hk h y hy
  · have := a2 j (by rw [cl_cset]; split <;> first | exact hj | decide)
    show cl ((refsP H.ps X X.len).foldl (shadeP H) (cset col x 2, r)).1 j ≠ 0
    rw [this, cl_cset]; split <;> first | exact hj | decide
  · have hd := g.dom x (rch_used g hxr).1
    obtain ⟨i, rfl⟩ : ∃ i : Nat, x = (i : Int) := ⟨x.toNat, by omega⟩
    refine countP_lt (a := i) (fun j hj => ?_) (by simp [hx1]) (by simp [hx2]) (List.mem_range.2 (by omega))
    simp only [decide_eq_true_eq] at hj ⊢
    intro h
    apply hj
    have := a2 (j : Int) (by rw [cl_cset]; split <;> first | (rw [h]; decide) | decide)
    show cl ((refsP H.ps X X.len).foldl (shadeP H) (cset col (i : Int) 2, r)).1 _ = 2
    rw [this, cl_cset]; split <;> first | exact h | rfl
theorem run_ex (g : GrOk H N) : ∀ (d : Nat) {col : Col} {l : List Int}, nb N col ≤ d → Mk H Rt (fun _ => False) col l → ∃ n col', n ≤ d ∧ Run H col l n col' ∧ Mk H Rt (fun _ => False) col' [] ∧ ∀ j, cl col j ≠ 0 → cl col' j ≠ 0
  | d, col, [], hd, m => ⟨0, col, Nat.zero_le _, .done, m, fun _ h => h⟩
  | d, col, x :: r, hd, m => by
    have hx1 : cl col x = 1 := (m.mem x).1 (List.mem_cons_self ..)
    have hxr : Rch H Rt x := m.sub x (by rw [hx1]; decide)
    have hu := (rch_used g hxr).1
    obtain ⟨X, hX⟩ : ∃ X, lookT H.ths x = some X := Option.isSome_iff_exists.1 hu
    obtain ⟨m1, a1, b1⟩ := step_mk g m hX
    have hlen := mk_len g m
    cases d with
    | zero => omega
    | succ d =>
      obtain ⟨n, col', hn, hr, m2, a2⟩ := run_ex g d (by omega) m1
      exact ⟨n + 1, col', by omega, .step hX (g.ths x X hX) (by omega) hr, m2, fun j hj => a2 j (a1 j hj)⟩
theorem black_iff (m : Mk H Rt (fun _ => False) col []) (h : ∀ k, Rt k → usedB H k = true → k ≠ 0 → cl col k ≠ 0) (k : Int) : Rch H Rt k ↔ cl col k ≠ 0 := by
  constructor
  · intro hr
    induction hr with
    | root a b c => exact h _ a b c
    | edge _ b ih =>
      rename_i x y _
      rcases m.three x with h0 | h1 | h2
      · exact absurd h0 ih
      · exact absurd ((m.mem x).2 h1) (by simp)
      · exact m.blk x h2 (fun h => h) y b
  · exact m.sub k
end
end Go.Proofs.Ytkknhcdjdcpfcaa
