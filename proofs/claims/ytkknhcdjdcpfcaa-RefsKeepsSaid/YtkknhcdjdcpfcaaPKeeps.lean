/- Plain laws: what the statement compares. -/
import Derived.Test.YtkknhcdjdcpfcaaWLaw2
import Derived.Test.YtkknhcdjdcpfcaaXSn
namespace Go.Proofs.Ytkknhcdjdcpfcaa
open Go.Sl Go.Iso
set_option linter.all false

theorem srcOk_up {x : Value} {m : Nat} {news : List Value} {h k : Hp} (hk : le h k) (s : srcOk x m news h) : srcOk x m news k := by
  rcases s with s | ⟨b, off, c, l, T, fr, h1, h2, h3⟩
  · exact .inl s
  · exact .inr ⟨b, off, c, l, T, fr, h1, hk b _ h2, h3⟩
theorem sep_src {T m : Nat} {v : Value} {l : List Value} : ∀ {M : List SP} {h : Hp}, ownS T 1 v l ∈ M → l.length = m → sep M h → srcOk v m l h
  | A :: M, h, hm, hl, s => by
    obtain ⟨h1, h2, d, e, x, y⟩ := s
    rcases List.mem_cons.1 hm with rfl | hm
    · refine srcOk_up (h := h1) (fun b o hb => by rw [e]; simp [un, hb]) ?_
      rcases x with ⟨rfl, rfl⟩ | ⟨b, k, c, sp, rfl, q2, q3, q4, q5⟩
      · exact .inl ⟨0, rfl, by simpa using hl.symm, rfl⟩
      · have : k = m := by omega
        subst this
        exact .inr ⟨b, 0, c, l ++ sp, T, (0, 0), rfl, q5, by rw [List.drop_zero, List.take_left']; rfl⟩
    · exact srcOk_up (h := h2) (fun b o hb => by rw [e, un_comm d]; simp [un, hb]) (sep_src hm hl y)
theorem SrcV.cut {ib : Src} {m c m' j : Nat} {p : Option Addr} {l : List Value} (h : SrcV ib m (.slice p m c) l) (hm : m' ≤ m) : SrcV ib m' (.slice p m' c) (l.take j) := by
  rcases h with ⟨c', rfl, h1, rfl, rfl⟩ | ⟨b, off, c', ls, T, fr, rfl, h1, h2⟩
  · cases h1
    have : m' = 0 := by omega
    subst this
    exact .inl ⟨c, rfl, rfl, rfl, List.take_nil⟩
  · cases h1
    refine .inr ⟨b, off, c, ls, T, fr, rfl, rfl, ?_⟩
    rw [List.length_take]
    conv => rhs; rw [← h2, List.take_take]
section
variable {n : Nat} {sl : Nat → Nat → Int} {H : HS}
theorem rch_eq (h : PH n sl H) (hn : n ≤ 12) {xs : List Int} (hx : ∀ x ∈ xs, x ≠ 0 → inR (osB n sl) x = true) (k : Int) : Rch H (fun k => k ∈ xs) k ↔ RchR (osB n sl) xs k := by
  constructor
  · intro r
    induction r with
    | root a _ c => exact .root a c
    | edge _ b ih => exact .edge ih (by rw [osB_refs hn, ← h.suc]; exact b)
  · intro r
    induction r with
    | root a c => exact .root a (by rw [h.agree hn]; exact hx _ a c) c
    | edge _ b ih => exact .edge ih (by rw [h.suc, ← osB_refs hn]; exact b)
theorem lroots_ok {os : List RO} {roots : List Int} : ∀ x ∈ lroots os roots, x ≠ 0 → inR os x = true := by
  intro x hx h0
  unfold lroots at hx
  split at hx
  · cases hx
  · rename_i hb
    refine Classical.byContradiction fun hn => hb (List.any_eq_true.2 ⟨x, hx, ?_⟩)
    rw [Bool.eq_false_iff.2 hn]
    simp [h0]
theorem rchR_in {os : List RO} (hc : RClosed os) {xs : List Int} (hx : ∀ x ∈ xs, x ≠ 0 → inR os x = true) {k : Int} (r : RchR os xs k) : inR os k = true := by
  cases r with
  | root a c => exact hx _ a c
  | edge _ b => exact hc.refs _ _ b
/-- The targets of the finals. -/
def finT (l : List Ent) : List Int := (l.filter fun e => decide (e.kind = 2)).map (·.target)
/-- Behind the first run: the colors. -/
theorem run_first (h : PH n sl H) (hn : n ≤ 12) (hok : slOk n sl) (roots : List Int) :
    ∃ k col1, k ≤ 100000 ∧ Run H ((lroots (osB n sl) roots).foldl (shadeP H) (fun _ => none, [])).1 ((lroots (osB n sl) roots).foldl (shadeP H) (fun _ => none, [])).2 k col1 ∧
      Mk H (fun k => k ∈ lroots (osB n sl) roots) (fun _ => False) col1 [] ∧ ∀ j, RchR (osB n sl) (lroots (osB n sl) roots) j ↔ cl col1 j ≠ 0 := by
  have g := h.gr hn hok
  have m0 := mk_start H (fun k => k ∈ lroots (osB n sl) roots) (fun _ => False)
  obtain ⟨m1, a1, b1, c1⟩ := shades_mk (xs := lroots (osB n sl) roots) m0 (fun k hk h0 hu => Rch.root hk hu h0)
  obtain ⟨k, col1, hk, hr, m2, a2⟩ := run_ex g _ (Nat.le_refl _) m1
  have hnb := nb_le n ((lroots (osB n sl) roots).foldl (shadeP H) (fun _ => none, [])).1
  refine ⟨k, col1, by omega, hr, m2, fun j => ?_⟩
  rw [← rch_eq h hn lroots_ok]
  exact black_iff m2 (fun k hk hu h0 => a2 k (c1 k hk h0 hu)) j
/-- What stays the same during the phases of the statement. -/
theorem keeps_ctx (h : PH n sl H) (hn : n ≤ 12) (hok : slOk n sl) {roots : List Int} {col1 : Col} {orig : List Ent} {lvl out : List Int} (hm : Mk H (fun k => k ∈ lroots (osB n sl) roots) (fun _ => False) col1 []) (hc1 : ∀ j, RchR (osB n sl) (lroots (osB n sl) roots) j ↔ cl col1 j ≠ 0)
    (hlv : ∀ k, k ∈ lvl ↔ RchR (osB n sl) (lroots (osB n sl) roots) k) (ho : ∀ e ∈ orig, EntOk H e) (hfew : orig.length ≤ 20) (hout : ∀ k, k ∈ out ↔ RchR (osB n sl) (lvl ++ finT orig) k) :
    Ctx H n (fun k => k ∈ lvl ++ finT orig) orig col1 (fun k => decide (k ∈ lvl)) (fun k => decide (k ∈ out)) ∧ Mk H (fun k => k ∈ lvl ++ finT orig) (fun _ => False) col1 [] := by
  have hcl := osB_closed hn hok
  have hkept : ∀ x ∈ lvl ++ finT orig, x ≠ 0 → inR (osB n sl) x = true := by
    intro x hx h0
    rcases List.mem_append.1 hx with hx | hx
    · exact rchR_in hcl lroots_ok ((hlv x).1 hx)
    · obtain ⟨e, he, rfl⟩ := List.mem_map.1 hx
      have := (ho e (List.mem_filter.1 he).1).used
      rwa [h.agree hn] at this
  refine ⟨⟨h.gr hn hok, ho, hfew, fun k => ?_, fun k => ?_, fun k hk hu h0 => ?_, fun e he hk => ?_⟩, ⟨hm.nd, hm.mem, hm.three, fun k hk => ?_, hm.blk⟩⟩
  · rw [decide_eq_true_iff, hlv, hc1]
  · rw [decide_eq_true_iff, hout, rch_eq h hn hkept]
  · rcases List.mem_append.1 hk with hk | hk
    · exact .inl ((hc1 k).1 ((hlv k).1 hk))
    · obtain ⟨e, he, rfl⟩ := List.mem_map.1 hk
      obtain ⟨h1, h2⟩ := List.mem_filter.1 he
      exact .inr ⟨e, h1, of_decide_eq_true h2, rfl⟩
  · exact List.mem_append_right _ (List.mem_map.2 ⟨e, List.mem_filter.2 ⟨he, decide_eq_true hk⟩, rfl⟩)
  · have h1 := (hc1 k).2 hk
    have h2 := rchR_in hcl lroots_ok h1
    exact .root (List.mem_append_left _ ((hlv k).2 h1)) (by rw [h.agree hn]; exact h2) (by have := inR_pos h2; omega)
theorem finT_le (l : List Ent) : (finT l).length ≤ l.length := by
  unfold finT
  rw [List.length_map]
  exact List.length_filter_le _ _
theorem finT_snoc {l : List Ent} {e : Ent} : finT (l ++ [e]) = finT l ++ (if e.kind = 2 then [e.target] else []) := by
  unfold finT
  rw [List.filter_append, List.map_append]
  by_cases h : e.kind = 2 <;> simp [h]
theorem tagsOf_snoc {lv : Int → Bool} {l : List Ent} {e : Ent} : tagsOf lv (l ++ [e]) = tagsOf lv l ++ (if e.kind = 2 ∧ lv e.target = false then [e.tag] else []) := by
  unfold tagsOf
  rw [List.filter_append, List.map_append]
  by_cases h : e.kind = 2 <;> cases hl : lv e.target <;> simp [h, hl]
end
end Go.Proofs.Ytkknhcdjdcpfcaa
