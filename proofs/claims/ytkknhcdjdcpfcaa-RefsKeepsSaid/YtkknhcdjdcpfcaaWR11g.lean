/- Walks of package isochronref11: Reach. -/
import Derived.Test.YtkknhcdjdcpfcaaInst
import Derived.Test.YtkknhcdjdcpfcaaWR12
namespace Go.Proofs.Ytkknhcdjdcpfcaa
open Go.Sl Go.Iso
set_option linter.all false

/-- What is reached from these. -/
inductive RchR (os : List RO) (roots : List Int) : Int → Prop
  | root {r : Int} : r ∈ roots → r ≠ 0 → RchR os roots r
  | edge {x y : Int} : RchR os roots x → y ∈ refsO os x → RchR os roots y
abbrev mkAt (mk : List Bool) (y : Int) : Bool := mk.getD y.toNat false
/-- How many are not marked. -/
def unm (mk : List Bool) : Nat := mk.count false
theorem unm_set {mk : List Bool} {i : Nat} (hi : i < mk.length) : unm (mk.set i true) ≤ unm mk ∧ (mk.getD i false = false → unm (mk.set i true) < unm mk) := by
  have e : mk = mk.take i ++ mk[i] :: mk.drop (i + 1) := by rw [← List.drop_eq_getElem_cons hi, List.take_append_drop]
  have e2 : mk.set i true = mk.take i ++ true :: mk.drop (i + 1) := List.set_eq_take_append_cons_drop.trans (if_pos hi)
  have hg : mk.getD i false = mk[i] := by simp [hi]
  unfold unm
  rw [e2, hg]
  have e3 : mk.count false = (mk.take i).count false + ((mk[i] :: mk.drop (i + 1)).count false) := by rw [← List.count_append, ← e]
  rw [e3, List.count_append, List.count_cons, List.count_cons]
  cases h : mk[i] <;> simp
structure MkOk (os : List RO) (roots : List Int) (mk : List Bool) : Prop where
  len : mk.length = os.length
  sound : ∀ i : Nat, mk.getD i false = true → RchR os roots (i : Int)
theorem mk_set {os : List RO} {roots : List Int} {mk : List Bool} {i : Nat} (h : MkOk os roots mk) (hr : RchR os roots (i : Int)) : MkOk os roots (mk.set i true) := by
  refine ⟨by rw [List.length_set]; exact h.len, fun j hj => ?_⟩
  by_cases hij : i = j
  · subst hij; exact hr
  · refine h.sound j ?_
    rw [List.getD_eq_getElem?_getD, List.getElem?_set_ne hij, ← List.getD_eq_getElem?_getD] at hj
    exact hj
theorem mk_mono {mk : List Bool} {i : Nat} {y : Nat} (hi : i < mk.length) (h : mk.getD y false = true) : (mk.set i true).getD y false = true := by
  by_cases hij : i = y
  · subst hij; simp [hi]
  · rw [List.getD_eq_getElem?_getD, List.getElem?_set_ne hij, ← List.getD_eq_getElem?_getD]; exact h
/-- The references of the marked ones below k are marked. -/
def clB (os : List RO) (mk : List Bool) (k : Nat) : Prop := ∀ j : Nat, 1 ≤ j → j < k → mk.getD j false = true → ∀ y ∈ refsO os (j : Int), mkAt mk y = true
/-- In a round: nothing new so far, or fewer are not marked. -/
def rnd (os : List RO) (mk0 : List Bool) (k : Nat) (mk : List Bool) (more : Bool) : Prop :=
  (more = false ∧ mk = mk0 ∧ clB os mk k) ∨ (more = true ∧ unm mk < unm mk0)
structure RClosed (os : List RO) : Prop where
  refs : ∀ x y : Int, y ∈ refsO os x → inR os y = true
  len : os.length = 193
theorem refsO_le {os : List RO} (hok : ∀ o ∈ os, o.kind ≠ 0 → ROOk o) (k : Int) : (refsO os k).length ≤ 48 := by
  unfold refsO
  split
  · rename_i h
    have h' := h
    simp only [inR, Bool.and_eq_true, decide_eq_true_eq] at h'
    have hlt : k.toNat < os.length := by omega
    have hg : os.getD k.toNat default = os[k.toNat] := by simp [hlt]
    have := (hok _ (List.getElem_mem hlt) (by rw [← hg]; exact h'.2)).len
    rw [hg]
    exact Nat.le_trans (refsRk_le _ _) this
  · exact Nat.zero_le _
theorem inR_pos {os : List RO} {k : Int} (h : inR os k = true) : 1 ≤ k ∧ k < (os.length : Int) := by
  simp only [inR, Bool.and_eq_true, decide_eq_true_eq] at h
  exact h.1
def rootsMk (roots : List Int) (mk : List Bool) (i : Nat) : Prop := ∀ j r, j < i → roots[j]? = some r → r ≠ 0 → mkAt mk r = true
theorem rootsMk_set {roots : List Int} {mk : List Bool} {i y : Nat} (hy : y < mk.length) (h : rootsMk roots mk i) : rootsMk roots (mk.set y true) i := fun j r hj hr h0 => mk_mono hy (h j r hj hr h0)
section
variable {h : Nat} {R : RS}
set_option maxHeartbeats 8000000 in
theorem r11Reach {ib : Src} {nr : Nat} {v : Value} {roots : List Int} (hok : ∀ o ∈ R.os, o.kind ≠ 0 → ROOk o) (hcl : RClosed R.os) (hlen : roots.length = nr) (hnr : nr ≤ 1000) :
    C Try.prog 5 [.pointer (some ⟨h, 0, none⟩), v] [rheapA h R, inA ib nr v (roots.map encI)]
      (fun v' L' => if badRR R.os roots = true then v' = .tuple [.slice none 0 0, .int .i64 3].toArray ∧ L' = [rheapA h R, inA ib nr v (roots.map encI)]
        else ∃ (s : Value) (out : List Int), v' = .tuple [s, .int .i64 0].toArray ∧ (∀ k, k ∈ out ↔ RchR R.os roots k) ∧ out.length ≤ 193 ∧ L' = [rheapA h R, inA ib nr v (roots.map encI), ownS 3 1 s (out.map encI)]) := by
  have hN : R.os.length = 193 := hcl.len
  generalize hNN : R.os.length = N at hN
  have hN1 : N ≤ 1000 := by omega
  refine C_enter2 Try.func5 rfl rfl rfl fun β F => ?_
  refine go ?_
  refine call r11ThereA ?_
  rintro _ _ ⟨rfl, rfl⟩
  refine st_rheap .here fun W ok => ?_
  refine st_inV remA fun pv cv hv => ?_
  subst hv
  refine go ?_
  refine WO_makeSlice (len := R.os.length) (cap := R.os.length) (l := (List.replicate R.os.length false).map encBo) rfl rfl rfl (Nat.le_refl _) (by
    by_cases h0 : R.os.length * 1 = 0
    · rw [if_pos h0, show R.os.length = 0 by omega]; rfl
    · rw [if_neg h0, make1 rfl]; simp) (by omega) (by decide) rfl rfl rfl fun bm => ?_
  refine go ?_
  refine st_toRheap (R := R) W ok remsA ?_
  rw [hNN]
  refine WT_keep [7, 6, 0, 1] rfl ?_
  refine pickN (As := [cel bm ((List.replicate N false).map encBo) 4, rheapA h R, inA ib nr (.slice pv nr cv) (roots.map encI)]) ?_
  refine WT_loopX nr (fun i mk => MkOk R.os roots mk ∧ rootsMk roots mk i ∧ ∀ j r, j < i → roots[j]? = some r → r ≠ 0 → inR R.os r = true) (fun i _ => [(7, .int .i64 (i : Int)), (6, .slice (some ⟨bm, 0, none⟩) N N), (0, .pointer (some ⟨h, 0, none⟩)), (1, .slice pv nr cv)])
    (fun _ mk => [cel bm (mk.map encBo) 4, rheapA h R, inA ib nr (.slice pv nr cv) (roots.map encI)]) ?_ 0 (List.replicate N false) (Nat.zero_le _) ⟨⟨by rw [hNN]; simp, fun i hi => by rw [rep_false] at hi; cases hi⟩, fun j r hj => absurd hj (Nat.not_lt_zero _), fun j r hj => absurd hj (Nat.not_lt_zero _)⟩
  intro i mk hi ⟨hmk, hrm, hin⟩ ih
  have hml : mk.length = N := by rw [hmk.len, hNN]
  by_cases hlt : i < nr
  · obtain ⟨r, hr⟩ : ∃ r, roots[i]? = some r := ⟨roots[i], by simp⟩
    refine st_in remA (fun c q0 q1 q2 q3 => absurd hlt (by omega)) (fun b off c ls T fr q0 hvs hls => ?_)
    cases hvs
    subst q0
    have hat : ls[off + i * 1]? = some (encI r) := by
      rw [Nat.mul_one, getElem?_of_take hls (by simp; omega)]
      simp [hr]
    by_cases hr0 : r = 0
    · subst hr0
      refine go ?_
      refine st_fold (A := inA (some (b, .cells ls.toArray T fr)) nr (.slice (some ⟨b, off, none⟩) nr cv) (roots.map encI)) (As := [blk b (.cells ls.toArray T fr)]) remsA (in_mk hls) ?_
      refine WT_keep [7, 6, 0, 1] rfl ?_
      refine pickN (ih mk hlt ⟨hmk, fun j r hj hr' h0 => ?_, fun j r hj hr' h0 => ?_⟩)
      · rcases Nat.lt_or_ge j i with h1 | h1
        · exact hrm j r h1 hr' h0
        · have : j = i := by omega
          subst this; rw [hr] at hr'; cases hr'; exact absurd rfl h0
      · rcases Nat.lt_or_ge j i with h1 | h1
        · exact hin j r h1 hr' h0
        · have : j = i := by omega
          subst this; rw [hr] at hr'; cases hr'; exact absurd rfl h0
    · refine go ?_
      refine call (r11InA r) ?_
      rintro _ _ ⟨rfl, rfl⟩
      cases hi2 : inR R.os r with
      | false =>
        have hbad : badRR R.os roots = true := List.any_eq_true.2 ⟨r, List.mem_of_getElem? hr, by simp [hr0, hi2]⟩
        refine go ?_
        refine st_fold (A := inA (some (b, .cells ls.toArray T fr)) nr (.slice (some ⟨b, off, none⟩) nr cv) (roots.map encI)) (As := [blk b (.cells ls.toArray T fr)]) remsA (in_mk hls) ?_
        refine pickN (As := [rheapA h R, inA (some (b, .cells ls.toArray T fr)) nr (.slice (some ⟨b, off, none⟩) nr cv) (roots.map encI)]) ?_
        refine WT_ret (rs := [.tmp 4, .tmp 5]) Try.func5 rfl rfl (by rw [if_pos hbad]; exact ⟨rfl, rfl⟩)
      | true =>
        obtain ⟨hp1, hp2⟩ := inR_pos hi2
        rw [hNN] at hp2
        obtain ⟨m, rfl⟩ : ∃ m : Nat, r = (m : Int) := ⟨r.toNat, by omega⟩
        have hmN : m < N := by omega
        refine go ?_
        refine WO_storeS (b := bm) (off := 0 + m * 1) (l := mk.map encBo) (vs := [.bool true]) rfl rfl rfl rfl (by simp [Value.oneCell']) (by rw [List.length_map, hml]; simp; omega) spl_one updA rfl rfl ?_
        refine go ?_
        refine st_fold (A := inA (some (b, .cells ls.toArray T fr)) nr (.slice (some ⟨b, off, none⟩) nr cv) (roots.map encI)) (As := [blk b (.cells ls.toArray T fr)]) remsA (in_mk hls) ?_
        refine WT_keep [7, 6, 0, 1] rfl ?_
        refine pickN (ih (mk.set m true) hlt ⟨mk_set hmk (.root (List.mem_of_getElem? hr) hr0), fun j r hj hr' h0 => ?_, fun j r hj hr' h0 => ?_⟩)
        · rcases Nat.lt_or_ge j i with h1 | h1
          · exact mk_mono (by omega) (hrm j r h1 hr' h0)
          · have : j = i := by omega
            subst this; rw [hr] at hr'; cases hr'
            simp only [mkAt, Int.toNat_natCast]
            simp [hml, hmN]
        · rcases Nat.lt_or_ge j i with h1 | h1
          · exact hin j r h1 hr' h0
          · have : j = i := by omega
            subst this; rw [hr] at hr'; cases hr'; exact hi2
  · have hin2 : i = nr := by omega
    subst hin2
    have hgood : ¬ badRR R.os roots = true := by
      intro hb
      obtain ⟨r, hr, hb⟩ := List.any_eq_true.1 hb
      obtain ⟨j, hj, hjr⟩ := List.mem_iff_getElem.1 hr
      simp only [Bool.and_eq_true, decide_eq_true_eq, Bool.not_eq_true'] at hb
      have := hin j r (by omega) (by rw [List.getElem?_eq_getElem hj, hjr]) hb.1
      rw [this] at hb
      exact absurd hb.2 (by decide)
    clear ih
    refine go ?_
    refine WT_keep [8, 6, 0] rfl ?_
    refine WT_loopM (α := List Bool × Bool) (fun x => if x.2 = true then unm x.1 + 1 else 0) (fun x => MkOk R.os roots x.1 ∧ rootsMk roots x.1 i ∧ (x.2 = false → clB R.os x.1 N)) (fun x => [(8, .bool x.2), (6, .slice (some ⟨bm, 0, none⟩) N N), (0, .pointer (some ⟨h, 0, none⟩))])
      (fun x => [cel bm (x.1.map encBo) 4, rheapA h R, inA ib i (.slice pv i cv) (roots.map encI)]) ?_ (mk, true) ⟨hmk, hrm, fun h => by cases h⟩
    clear hml hmk hrm mk
    rintro ⟨mk, more⟩ ⟨hmk, hrm, hclo⟩ ih
    dsimp only at hmk hrm hclo ih ⊢
    have hml : mk.length = N := by rw [hmk.len, hNN]
    cases more with
    | true =>
      refine go ?_
      refine WT_keep [9, 8, 6, 0] rfl ?_
      refine WT_loopX N (fun k (x : List Bool × Bool) => 1 ≤ k ∧ MkOk R.os roots x.1 ∧ rootsMk roots x.1 i ∧ rnd R.os mk k x.1 x.2) (fun k x => [(9, .int .i64 (k : Int)), (8, .bool x.2), (6, .slice (some ⟨bm, 0, none⟩) N N), (0, .pointer (some ⟨h, 0, none⟩))])
        (fun _ x => [cel bm (x.1.map encBo) 4, rheapA h R, inA ib i (.slice pv i cv) (roots.map encI)]) ?_ 1 (mk, false) (by omega) ⟨Nat.le_refl _, hmk, hrm, .inl ⟨rfl, rfl, fun j h1 h2 => absurd h1 (by omega)⟩⟩
      rintro k ⟨mk1, more1⟩ hk ⟨hk1, hmk1, hrm1, hrn⟩ ih1
      dsimp only at hmk1 hrm1 hrn ih1 ⊢
      have hml1 : mk1.length = N := by rw [hmk1.len, hNN]
      by_cases hlt : k < N
      · obtain ⟨b, hb⟩ : ∃ b, mk1[k]? = some b := ⟨mk1[k]'(by omega), by simp⟩
        have hat := map_at' (f := encBo) hb
        have hgb : mk1.getD k false = b := by rw [List.getD_eq_getElem?_getD, hb]; rfl
        cases b with
        | false =>
          refine go ?_
          refine WT_keep [9, 8, 6, 0] rfl ?_
          refine ih1 (mk1, more1) hlt ⟨by omega, hmk1, hrm1, ?_⟩
          rcases hrn with ⟨h1, h2, h3⟩ | h1
          · refine .inl ⟨h1, h2, fun j hj hjk hjm => ?_⟩
            rcases Nat.lt_or_ge j k with h4 | h4
            · exact h3 j hj h4 hjm
            · have : j = k := by omega
              subst this; rw [hgb] at hjm; cases hjm
          · exact .inr h1
        | true =>
          refine go ?_
          refine call (r11Refs hok (k : Int)) ?_
          rintro _ _ ⟨s, e, rfl, rfl⟩
          refine st_ownL (T := 3) (sz := 1) (s := s) (l := (refsO R.os (k : Int)).map encI) remA fun pl nl cl hv hlb => ?_
          subst hv
          have hnl : (refsO R.os (k : Int)).length = nl := by simpa using hlb
          have hnl48 : nl ≤ 48 := by rw [← hnl]; exact refsO_le hok _
          clear hat
          refine go ?_
          refine WT_keep [12, 10, 9, 8, 6, 0] rfl ?_
          refine pickN (As := [cel bm (mk1.map encBo) 4, ownS 3 1 (.slice pl nl cl) ((refsO R.os (k : Int)).map encI), rheapA h R, inA ib i (.slice pv i cv) (roots.map encI)]) ?_
          refine WT_loopX nl (fun q (x : List Bool × Bool) => MkOk R.os roots x.1 ∧ rootsMk roots x.1 i ∧ ((x.2 = false ∧ x.1 = mk ∧ clB R.os mk k ∧ ∀ j y, j < q → (refsO R.os (k : Int))[j]? = some y → mkAt mk y = true) ∨ (x.2 = true ∧ unm x.1 < unm mk)))
            (fun q x => [(12, .int .i64 (q : Int)), (10, .slice pl nl cl), (9, .int .i64 (k : Int)), (8, .bool x.2), (6, .slice (some ⟨bm, 0, none⟩) N N), (0, .pointer (some ⟨h, 0, none⟩))])
            (fun _ x => [cel bm (x.1.map encBo) 4, ownS 3 1 (.slice pl nl cl) ((refsO R.os (k : Int)).map encI), rheapA h R, inA ib i (.slice pv i cv) (roots.map encI)]) ?_ 0 (mk1, more1) (Nat.zero_le _) ⟨hmk1, hrm1, by
              rcases hrn with ⟨h1, h2, h3⟩ | h1
              · exact .inl ⟨h1, h2, by rw [← h2]; exact h3, fun j y hj => absurd hj (Nat.not_lt_zero _)⟩
              · exact .inr h1⟩
          rintro q ⟨mk2, more2⟩ hq ⟨hmk2, hrm2, hrn2⟩ ih2
          dsimp only at hmk2 hrm2 hrn2 ih2 ⊢
          have hml2 : mk2.length = N := by rw [hmk2.len, hNN]
          by_cases hlt2 : q < nl
          · obtain ⟨y, hy⟩ : ∃ y, (refsO R.os (k : Int))[q]? = some y := ⟨(refsO R.os (k : Int))[q]'(by omega), by simp⟩
            have hym := List.mem_of_getElem? hy
            have hyr : RchR R.os roots y := .edge (hmk1.sound k hgb) hym
            obtain ⟨hp1, hp2⟩ := inR_pos (hcl.refs _ _ hym)
            rw [hNN] at hp2
            obtain ⟨m, rfl⟩ : ∃ m : Nat, y = (m : Int) := ⟨y.toNat, by omega⟩
            have hmN : m < N := by omega
            refine st_own (T := 3) (sz := 1) (l := (refsO R.os (k : Int)).map encI) (s := .slice pl nl cl) remA (fun hs h0 => ?_) (fun bl Nl cc spl hvs hls hsps hcs => ?_)
            · have := congrArg List.length h0; rw [List.length_map, List.length_nil] at this; omega
            cases hvs
            have atL := map_at (f := encI) hy spl
            have hfold := own_mk (T := 3) (b := bl) hls hsps hcs
            have hnext : ∀ j y, j < q + 1 → (refsO R.os (k : Int))[j]? = some y → j < q ∨ y = (m : Int) := fun j y' hj hy' => by
              rcases Nat.lt_or_ge j q with h1 | h1
              · exact .inl h1
              · have : j = q := by omega
                subst this; rw [hy] at hy'; cases hy'; exact .inr rfl
            cases more2 with
            | true =>
              have hu : unm mk2 < unm mk := by
                rcases hrn2 with ⟨h1, _⟩ | ⟨_, h2⟩
                · cases h1
                · exact h2
              refine go ?_
              refine WO_storeS (b := bm) (off := 0 + m * 1) (l := mk2.map encBo) (vs := [.bool true]) rfl rfl rfl rfl (by simp [Value.oneCell']) (by rw [List.length_map, hml2]; simp; omega) spl_one updA rfl rfl ?_
              refine go ?_
              refine st_fold (A := ownS 3 1 (.slice (some ⟨bl, 0, none⟩) nl cl) ((refsO R.os (k : Int)).map encI)) (As := [cel bl ((refsO R.os (k : Int)).map encI ++ spl) 3]) remsA hfold ?_
              refine WT_keep [12, 10, 9, 8, 6, 0] rfl ?_
              refine pickN (ih2 (mk2.set m true, true) hlt2 ⟨mk_set hmk2 hyr, rootsMk_set (by omega) hrm2, .inr ⟨rfl, ?_⟩⟩)
              have := (unm_set (mk := mk2) (i := m) (by omega)).1
              show unm (mk2.set m true) < unm mk
              omega
            | false =>
              have hrn3 : mk2 = mk ∧ clB R.os mk k ∧ ∀ j y, j < q → (refsO R.os (k : Int))[j]? = some y → mkAt mk y = true := by
                rcases hrn2 with ⟨_, h1⟩ | ⟨h1, _⟩
                · exact h1
                · cases h1
              obtain ⟨hme, hcl3, hal3⟩ := hrn3
              obtain ⟨b2, hb2⟩ : ∃ b2, mk2[m]? = some b2 := ⟨mk2[m]'(by omega), by simp⟩
              have hat2 := map_at' (f := encBo) hb2
              have hgb2 : mk2.getD m false = b2 := by rw [List.getD_eq_getElem?_getD, hb2]; rfl
              cases b2 with
              | true =>
                have hset : mk2.set m true = mk2 := set_self hb2
                refine go ?_
                clear hat2
                refine WO_storeS (b := bm) (off := 0 + m * 1) (l := mk2.map encBo) (vs := [.bool true]) rfl rfl rfl rfl (by simp [Value.oneCell']) (by rw [List.length_map, hml2]; simp; omega) spl_one updA rfl rfl ?_
                refine go ?_
                refine st_fold (A := ownS 3 1 (.slice (some ⟨bl, 0, none⟩) nl cl) ((refsO R.os (k : Int)).map encI)) (As := [cel bl ((refsO R.os (k : Int)).map encI ++ spl) 3]) remsA hfold ?_
                refine WT_keep [12, 10, 9, 8, 6, 0] rfl ?_
                refine pickN (ih2 (mk2.set m true, false) hlt2 ⟨mk_set hmk2 hyr, rootsMk_set (by omega) hrm2, .inl ⟨rfl, by show mk2.set m true = mk; rw [hset]; exact hme, hcl3, fun j y hj hy' => ?_⟩⟩)
                rcases hnext j y hj hy' with h1 | rfl
                · exact hal3 j y h1 hy'
                · rw [← hme]; exact hgb2
              | false =>
                refine go ?_
                clear hat2
                refine WO_storeS (b := bm) (off := 0 + m * 1) (l := mk2.map encBo) (vs := [.bool true]) rfl rfl rfl rfl (by simp [Value.oneCell']) (by rw [List.length_map, hml2]; simp; omega) spl_one updA rfl rfl ?_
                refine go ?_
                refine st_fold (A := ownS 3 1 (.slice (some ⟨bl, 0, none⟩) nl cl) ((refsO R.os (k : Int)).map encI)) (As := [cel bl ((refsO R.os (k : Int)).map encI ++ spl) 3]) remsA hfold ?_
                refine WT_keep [12, 10, 9, 8, 6, 0] rfl ?_
                refine pickN (ih2 (mk2.set m true, true) hlt2 ⟨mk_set hmk2 hyr, rootsMk_set (by omega) hrm2, .inr ⟨rfl, ?_⟩⟩)
                show unm (mk2.set m true) < unm mk
                rw [← hme]
                exact (unm_set (mk := mk2) (i := m) (by omega)).2 hgb2
          · have hqn : q = nl := by omega
            subst hqn
            refine go ?_
            refine WT_keep [9, 8, 6, 0] rfl ?_
            refine pickN (ih1 (mk2, more2) hlt ⟨by omega, hmk2, hrm2, ?_⟩)
            rcases hrn2 with ⟨h1, h2, h3, h4⟩ | h1
            · have h2' : mk2 = mk := h2
              subst h2'
              refine .inl ⟨h1, rfl, fun j hj hjk hjm y hy => ?_⟩
              rcases Nat.lt_or_ge j k with h5 | h5
              · exact h3 j hj h5 hjm y hy
              · have : j = k := by omega
                subst this
                obtain ⟨p, hp, hpy⟩ := List.mem_iff_getElem.1 hy
                exact h4 p y (by omega) (by rw [List.getElem?_eq_getElem hp, hpy])
            · exact .inr h1
      · have hkN : k = N := by omega
        subst hkN
        refine go ?_
        refine WT_keep [8, 6, 0] rfl ?_
        refine pickN (ih (mk1, more1) ?_ ⟨hmk1, hrm1, fun hm => ?_⟩)
        · show (if more1 = true then unm mk1 + 1 else 0) < (if true = true then unm mk + 1 else 0)
          rw [if_pos rfl]
          rcases hrn with ⟨rfl, _⟩ | ⟨rfl, h2⟩
          · rw [if_neg (by decide)]; omega
          · rw [if_pos rfl]; omega
        · rcases hrn with ⟨_, rfl, h3⟩ | ⟨h1, _⟩
          · exact h3
          · subst h1; cases hm
    | false =>
      clear ih
      refine go ?_
      refine WT_keep [14, 13, 6] rfl ?_
      refine st_fold (A := ownS 3 1 (.slice none 0 0) (([] : List Int).map encI)) (As := []) .nil (fun h _ => own_nil h) ?_
      refine WT_loopX N (fun k (x : Value × List Int) => 1 ≤ k ∧ (∃ p n c, x.1 = .slice p n c) ∧ x.2.length ≤ k ∧ ∀ j : Int, j ∈ x.2 ↔ (1 ≤ j ∧ j < (k : Int) ∧ mkAt mk j = true)) (fun k x => [(14, .int .i64 (k : Int)), (13, x.1), (6, .slice (some ⟨bm, 0, none⟩) N N)])
        (fun _ x => [ownS 3 1 x.1 (x.2.map encI), cel bm (mk.map encBo) 4, rheapA h R, inA ib i (.slice pv i cv) (roots.map encI)]) ?_ 1 (.slice none 0 0, []) (by omega) ⟨Nat.le_refl _, ⟨_, _, _, rfl⟩, Nat.zero_le _, fun j => ⟨fun h => (by cases h), fun ⟨h1, h2, _⟩ => absurd h1 (by omega)⟩⟩
      rintro k ⟨lv, out⟩ hk ⟨hk1, ⟨pl, nl, cl, hlv⟩, hol, hout⟩ ih
      dsimp only at hlv hol hout ih ⊢
      subst hlv
      by_cases hlt : k < N
      · obtain ⟨b, hb⟩ : ∃ b, mk[k]? = some b := ⟨mk[k]'(by omega), by simp⟩
        have hat := map_at' (f := encBo) hb
        have hgb : mkAt mk (k : Int) = b := by simp [mkAt, hb]
        cases b with
        | false =>
          refine go ?_
          refine WT_keep [14, 13, 6] rfl ?_
          refine ih (.slice pl nl cl, out) hlt ⟨by omega, ⟨_, _, _, rfl⟩, by show out.length ≤ k + 1; omega, fun j => ?_⟩
          show j ∈ out ↔ _
          rw [hout j]
          constructor
          · rintro ⟨h1, h2, h3⟩; exact ⟨h1, by omega, h3⟩
          · rintro ⟨h1, h2, h3⟩
            refine ⟨h1, ?_, h3⟩
            rcases Int.lt_or_le j (k : Int) with h4 | h4
            · exact h4
            · have : j = (k : Int) := by omega
              subst this; rw [hgb] at h3; cases h3
        | true =>
          refine go ?_
          refine WO_append1 (s := .slice pl nl cl) (l := out.map encI) (u := encI (k : Int)) rfl rfl rfl rfl rfl rfl rfl rfl (fun _ => rfl) (by rw [List.length_map]; omega) (by decide) rfl (fun _ => rfl) rfl rfl fun v' b' => ?_
          refine st_ownV .here fun pv' nv' cv' hv' => ?_
          subst hv'
          have eq1 : out.map encI ++ [encI (k : Int)] = (out ++ [(k : Int)]).map encI := by rw [List.map_append]; rfl
          rw [eq1]
          refine go ?_
          refine WT_keep [14, 13, 6] rfl ?_
          refine pickN (ih (.slice pv' nv' cv', out ++ [(k : Int)]) hlt ⟨by omega, ⟨_, _, _, rfl⟩, by show (out ++ [(k : Int)]).length ≤ k + 1; rw [List.length_append]; simp; omega, fun j => ?_⟩)
          show j ∈ out ++ [(k : Int)] ↔ _
          rw [List.mem_append, List.mem_singleton, hout j]
          constructor
          · rintro (⟨h1, h2, h3⟩ | rfl)
            · exact ⟨h1, by omega, h3⟩
            · exact ⟨by omega, by omega, hgb⟩
          · rintro ⟨h1, h2, h3⟩
            rcases Int.lt_or_le j (k : Int) with h4 | h4
            · exact .inl ⟨h1, h4, h3⟩
            · exact .inr (by omega)
      · have hkN : k = N := by omega
        subst hkN
        refine go ?_
        refine pickN (As := [rheapA h R, inA ib i (.slice pv i cv) (roots.map encI), ownS 3 1 (.slice pl nl cl) (out.map encI)]) ?_
        refine WT_ret (rs := [.tmp 4, .tmp 5]) Try.func5 rfl rfl ?_
        rw [if_neg hgood]
        refine ⟨_, out, rfl, fun j => ?_, by omega, rfl⟩
        rw [hout j]
        constructor
        · rintro ⟨h1, h2, h3⟩
          have := hmk.sound j.toNat h3
          rwa [Int.toNat_of_nonneg (by omega)] at this
        · intro hj
          induction hj with
          | root hr h0 =>
            rename_i r
            obtain ⟨j, hj, hjr⟩ := List.mem_iff_getElem.1 hr
            have hjr' : roots[j]? = some r := by rw [List.getElem?_eq_getElem hj, hjr]
            have h1 := inR_pos (hin j r (by omega) hjr' h0)
            rw [hNN] at h1
            exact ⟨h1.1, h1.2, hrm j r (by omega) hjr' h0⟩
          | edge _ hy ihx =>
            rename_i x y _
            obtain ⟨h1, h2, h3⟩ := ihx
            have h4 := inR_pos (hcl.refs x y hy)
            rw [hNN] at h4
            refine ⟨h4.1, h4.2, ?_⟩
            have := hclo rfl x.toNat (by omega) (by omega) h3 y
            rw [Int.toNat_of_nonneg (by omega)] at this
            exact this hy
end
end Go.Proofs.Ytkknhcdjdcpfcaa
