/- The end of RefsKeeps: what the table has is compared. -/
import Derived.Test.YtkknhcdjdcpfcaaInst
import Derived.Test.YtkknhcdjdcpfcaaWKa
namespace Go.Proofs.Ytkknhcdjdcpfcaa
open Go.Sl Go.Iso
set_option linter.all false
section
variable {pl pr pe : Option Addr} {nl cl nr cr ne ce : Nat} {lk en : Nat → Nat → Int} {ir : Src} {roots : List Int}
variable {β : Bs} {F : SP} {b h r m t u n : Nat} {mn : Option Addr} {H : HS} {sl : Nat → Nat → Int} {col1 : Col} {lvl : List Int} {plv : Option Addr} {nlv clv : Nat}
set_option maxHeartbeats 16000000 in
theorem keepsD {orig : List Ent} {po ps : Option Addr} {co cs : Nat} {out : List Int} {S' : TS} {ibL ibA : Src} (hlvl : lvl.length ≤ 193) (hnlv : lvl.length = nlv) (hfew : orig.length ≤ 20) (hoe : ∀ e ∈ orig, EntOk H e) (hout193 : out.length ≤ 193) (hL : Left orig (fun k => decide (k ∈ lvl)) (fun k => decide (k ∈ out)) S') :
    St β F [bothA b h r (some ⟨m, 0, none⟩) mn t u, tabA t S', ownS 47 3 (.slice po orig.length co) (encEs orig), inA ibL nlv (.slice plv nlv clv) (lvl.map encI), inA ibA out.length (.slice ps out.length cs) (out.map encI), ownS 3 1 (.slice none 0 0) ((tagsOf (fun k => decide (k ∈ lvl)) (orig.take 0)).map encI)]
        (WT Try.prog 3 β F 252 keepsR [.code (.loop lp2), .inBlock 2, .code rs2] [(21, .int .i64 0), (20, .slice none 0 0), (16, .slice ps out.length cs), (10, .slice po orig.length co), (8, .slice plv nlv clv), (5, .pointer (some ⟨b, 0, none⟩))]) := by
  refine WT_loopX orig.length (fun _ (tv : Value) => ∃ p n c, tv = .slice p n c) (fun i tv => [(21, .int .i64 (i : Int)), (20, tv), (16, .slice ps out.length cs), (10, .slice po orig.length co), (8, .slice plv nlv clv), (5, .pointer (some ⟨b, 0, none⟩))])
    (fun i tv => [bothA b h r (some ⟨m, 0, none⟩) mn t u, tabA t S', ownS 47 3 (.slice po orig.length co) (encEs orig), inA ibL nlv (.slice plv nlv clv) (lvl.map encI), inA ibA out.length (.slice ps out.length cs) (out.map encI), ownS 3 1 tv ((tagsOf (fun k => decide (k ∈ lvl)) (orig.take i)).map encI)]) ?_ 0 (.slice none 0 0) (Nat.zero_le _) ⟨_, _, _, rfl⟩
  rintro q tv hq ⟨pt, nt, ct, rfl⟩ ih
  by_cases hlt : q < orig.length
  · obtain ⟨e, he⟩ : ∃ e, orig[q]? = some e := ⟨orig[q], by simp⟩
    have heo := hoe e (List.mem_of_getElem? he)
    have hpos := heo.pos
    have hE' := hL.ents q e he
    have htk : orig.take (q + 1) = orig.take q ++ [e] := by rw [List.take_add_one, he]; rfl
    obtain ⟨e', he'⟩ : ∃ e', e' = (if clrB (fun k => decide (k ∈ lvl)) (fun k => decide (k ∈ out)) e = true then { e with target := 0 } else e) := ⟨_, rfl⟩
    rw [← he'] at hE'
    obtain ⟨x, hx⟩ : ∃ x, x = e'.target := ⟨_, rfl⟩
    refine st_own (T := 47) (sz := 3) (l := encEs orig) (s := .slice po orig.length co) remA (fun hs h0 => ?_) (fun bb Nb cb spb hv hlb hspb hcb => ?_)
    · have := congrArg List.length h0; rw [encEs_length, List.length_nil] at this; omega
    cases hv
    have at0 : (encEs orig ++ spb)[0 + q * 3 + 0]? = some (.int .i64 e.kind) := encEs_get spb he rfl
    have at1 : (encEs orig ++ spb)[0 + q * 3 + 1]? = some (.int .i64 e.target) := encEs_get spb he rfl
    have at2 : (encEs orig ++ spb)[0 + q * 3 + 2]? = some (.int .i64 e.tag) := encEs_get spb he rfl
    have hfold := own_mk (T := 47) (b := bb) hlb hspb hcb
    obtain ⟨fv, hfv⟩ : ∃ fv : Int, fv = 0 := ⟨_, rfl⟩
    have hT := (tabTarget (t := t) (i := q) hE' (by rw [hL.len]; omega)).mono (R' := fun v L' => v = .tuple [.int .i64 x, .int .i64 fv].toArray ∧ L' = [tabA t S']) (fun v L' ⟨h1, h2⟩ => ⟨by rw [hfv, hx]; exact h1, h2⟩)
    refine go ?_
    refine call hT ?_
    rintro _ _ ⟨rfl, rfl⟩
    refine go ?_
    refine call (lawHas (ia := ibL) (na := nlv) (va := .slice plv nlv clv) (xs := lvl) hnlv (by omega) e.target) ?_
    rintro _ _ ⟨rfl, rfl⟩
    refine WO_keep (E' := [(189, .bool (decide (e.target ∈ lvl))), (23, .int .i64 fv), (22, .int .i64 x), (21, .int .i64 (q : Int)), (20, .slice pt nt ct), (16, .slice ps out.length cs), (10, .slice (some ⟨bb, 0, none⟩) orig.length co), (8, .slice plv nlv clv), (5, .pointer (some ⟨b, 0, none⟩))]) [189, 23, 22, 21, 20, 16, 10, 8, 5] rfl ?_
    have hfw : Wrap (fv = 0) := ⟨hfv⟩
    clear hfv
    apply join1 (Pr := fun st : Bool => (st = true → x = e.target) ∧ (st = false → x = 0) ∧ (e.kind = 2 → st = decide (e.target ∈ lvl)))
    · intro z
      by_cases hk3 : e.kind = 3
      · obtain ⟨st, hst⟩ : ∃ st, st = decide (e.target ∈ out) := ⟨_, rfl⟩
        have hclr : clrB (fun k => decide (k ∈ lvl)) (fun k => decide (k ∈ out)) e = !st := by unfold clrB; rw [if_pos hk3, hst]
        refine go ?_
        refine call (lawHas (ia := ibA) (na := out.length) (va := .slice ps out.length cs) (xs := out) rfl (by omega) e.target) ?_
        rintro _ _ ⟨rfl, rfl⟩
        rw [← hst]
        refine go ?_
        refine WO_keep (E' := [(205, .bool (decide (fv ≠ 0))), (24, .bool st), (22, .int .i64 x), (21, .int .i64 (q : Int)), (20, .slice pt nt ct), (16, .slice ps out.length cs), (10, .slice (some ⟨bb, 0, none⟩) orig.length co), (8, .slice plv nlv clv), (5, .pointer (some ⟨b, 0, none⟩))]) [205, 24, 22, 21, 20, 16, 10, 8, 5] rfl ?_
        refine pickN (As := [bothA b h r (some ⟨m, 0, none⟩) mn t u, tabA t S', cel bb (encEs orig ++ spb) 47, inA ibL nlv (.slice plv nlv clv) (lvl.map encI), inA ibA out.length (.slice ps out.length cs) (out.map encI), ownS 3 1 (.slice pt nt ct) ((tagsOf (fun k => decide (k ∈ lvl)) (orig.take q)).map encI)]) ?_
        exact z st ⟨fun h => by rw [hx, he', hclr, h]; rfl, fun h => by rw [hx, he', hclr, h]; rfl, fun h2 => by omega⟩
      · obtain ⟨st, hst⟩ : ∃ st, st = decide (e.target ∈ lvl) := ⟨_, rfl⟩
        have hclr : clrB (fun k => decide (k ∈ lvl)) (fun k => decide (k ∈ out)) e = !st := by unfold clrB; rw [if_neg hk3, hst]
        rw [← hst]
        refine go ?_
        refine WO_keep (E' := [(205, .bool (decide (fv ≠ 0))), (24, .bool st), (22, .int .i64 x), (21, .int .i64 (q : Int)), (20, .slice pt nt ct), (16, .slice ps out.length cs), (10, .slice (some ⟨bb, 0, none⟩) orig.length co), (8, .slice plv nlv clv), (5, .pointer (some ⟨b, 0, none⟩))]) [205, 24, 22, 21, 20, 16, 10, 8, 5] rfl ?_
        refine pickN (As := [bothA b h r (some ⟨m, 0, none⟩) mn t u, tabA t S', cel bb (encEs orig ++ spb) 47, inA ibL nlv (.slice plv nlv clv) (lvl.map encI), inA ibA out.length (.slice ps out.length cs) (out.map encI), ownS 3 1 (.slice pt nt ct) ((tagsOf (fun k => decide (k ∈ lvl)) (orig.take q)).map encI)]) ?_
        exact z st ⟨fun h => by rw [hx, he', hclr, h]; rfl, fun h => by rw [hx, he', hclr, h]; rfl, fun _ => hst⟩
    · rintro st ⟨hs1, hs2, hs3⟩
      have hfv := hfw.it
      subst hfv
      rw [show decide ((0 : Int) ≠ 0) = false from rfl]
      cases st with
      | true =>
        have hxe := hs1 rfl
        clear hs2
        by_cases hk2 : e.kind = 2
        · have hin := of_decide_eq_true (hs3 hk2).symm
          have etk : tagsOf (fun k => decide (k ∈ lvl)) (orig.take (q + 1)) = tagsOf (fun k => decide (k ∈ lvl)) (orig.take q) := by rw [htk, tagsOf_snoc, if_neg (fun h => by have h2 : decide (e.target ∈ lvl) = false := h.2; rw [decide_eq_true hin] at h2; cases h2), List.append_nil]
          refine go ?_
          refine st_fold (A := ownS 47 3 (.slice (some ⟨bb, 0, none⟩) orig.length co) (encEs orig)) (As := [cel bb (encEs orig ++ spb) 47]) remsA hfold ?_
          refine WT_keep [21, 20, 16, 10, 8, 5] rfl ?_
          have ih := ih (.slice pt nt ct) hlt ⟨_, _, _, rfl⟩
          rw [etk] at ih
          exact pickN ih
        · have etk : tagsOf (fun k => decide (k ∈ lvl)) (orig.take (q + 1)) = tagsOf (fun k => decide (k ∈ lvl)) (orig.take q) := by rw [htk, tagsOf_snoc, if_neg (fun h => hk2 h.1), List.append_nil]
          refine go ?_
          refine st_fold (A := ownS 47 3 (.slice (some ⟨bb, 0, none⟩) orig.length co) (encEs orig)) (As := [cel bb (encEs orig ++ spb) 47]) remsA hfold ?_
          refine WT_keep [21, 20, 16, 10, 8, 5] rfl ?_
          have ih := ih (.slice pt nt ct) hlt ⟨_, _, _, rfl⟩
          rw [etk] at ih
          exact pickN ih
      | false =>
        have hxe := hs2 rfl
        clear hs1
        by_cases hk2 : e.kind = 2
        · have hni : decide (e.target ∈ lvl) = false := (hs3 hk2).symm
          have etk : tagsOf (fun k => decide (k ∈ lvl)) (orig.take (q + 1)) = tagsOf (fun k => decide (k ∈ lvl)) (orig.take q) ++ [e.tag] := by rw [htk, tagsOf_snoc, if_pos ⟨hk2, hni⟩]
          have hlt20 : (tagsOf (fun k => decide (k ∈ lvl)) (orig.take q)).length ≤ 20 := by
            unfold tagsOf
            rw [List.length_map]
            refine Nat.le_trans (List.length_filter_le _ _) ?_
            rw [List.length_take]; omega
          refine go ?_
          refine WO_append1 (s := .slice pt nt ct) (l := (tagsOf (fun k => decide (k ∈ lvl)) (orig.take q)).map encI) (u := encI e.tag) rfl rfl rfl rfl rfl rfl rfl rfl (fun _ => rfl) (by rw [List.length_map]; omega) (by decide) rfl (fun _ => rfl) rfl rfl fun v2 b2 => ?_
          refine st_ownV .here fun pt' nt' ct' hv2 => ?_
          subst hv2
          have eqt : (tagsOf (fun k => decide (k ∈ lvl)) (orig.take q)).map encI ++ [encI e.tag] = (tagsOf (fun k => decide (k ∈ lvl)) (orig.take (q + 1))).map encI := by rw [etk, List.map_append]; rfl
          rw [eqt]
          refine go ?_
          refine st_fold (A := ownS 47 3 (.slice (some ⟨bb, 0, none⟩) orig.length co) (encEs orig)) (As := [cel bb (encEs orig ++ spb) 47]) remsA hfold ?_
          refine WT_keep [21, 20, 16, 10, 8, 5] rfl ?_
          exact pickN (ih (.slice pt' nt' ct') hlt ⟨_, _, _, rfl⟩)
        · have etk : tagsOf (fun k => decide (k ∈ lvl)) (orig.take (q + 1)) = tagsOf (fun k => decide (k ∈ lvl)) (orig.take q) := by rw [htk, tagsOf_snoc, if_neg (fun h => hk2 h.1), List.append_nil]
          refine go ?_
          refine st_fold (A := ownS 47 3 (.slice (some ⟨bb, 0, none⟩) orig.length co) (encEs orig)) (As := [cel bb (encEs orig ++ spb) 47]) remsA hfold ?_
          refine WT_keep [21, 20, 16, 10, 8, 5] rfl ?_
          have ih := ih (.slice pt nt ct) hlt ⟨_, _, _, rfl⟩
          rw [etk] at ih
          exact pickN ih
  · have hqn : q = orig.length := by omega
    subst hqn
    rw [List.take_of_length_le (Nat.le_refl _)]
    have hql : (tagsOf (fun k => decide (k ∈ lvl)) orig).length ≤ 20 := by
      unfold tagsOf
      rw [List.length_map]
      exact Nat.le_trans (List.length_filter_le _ _) hfew
    refine go ?_
    refine call (tabQueue (t := t) (S := S') (by rw [hL.queue]; omega)) ?_
    rintro qv _ rfl
    rw [hL.queue]
    refine st_ownV (T := 3) (sz := 1) (s := qv) (l := (tagsOf (fun k => decide (k ∈ lvl)) orig).map encI) remA fun pq nq cq hqv => ?_
    subst hqv
    refine go ?_
    refine st_ownL (T := 3) (sz := 1) (s := .slice pq nq cq) (l := (tagsOf (fun k => decide (k ∈ lvl)) orig).map encI) remA fun p1 n1 c1 e1 hl1 => ?_
    cases e1
    refine st_ownIn (T := 3) (sz := 1) (v := .slice pq nq cq) (l := (tagsOf (fun k => decide (k ∈ lvl)) orig).map encI) (n := nq) remA hl1 (by decide) fun ibQ => ?_
    refine st_ownL (T := 3) (sz := 1) (s := .slice pt nt ct) (l := (tagsOf (fun k => decide (k ∈ lvl)) orig).map encI) remA fun p2 n2 c2 e2 hl2 => ?_
    cases e2
    refine st_ownIn (T := 3) (sz := 1) (v := .slice pt nt ct) (l := (tagsOf (fun k => decide (k ∈ lvl)) orig).map encI) (n := nt) remA hl2 (by decide) fun ibT => ?_
    rw [List.length_map, Nat.mul_one] at hl1 hl2
    refine call (r03Ints (ia := ibQ) (ib := ibT) (na := nq) (nb := nt) (va := .slice pq nq cq) (vb := .slice pt nt ct) (xs := tagsOf (fun k => decide (k ∈ lvl)) orig) (ys := tagsOf (fun k => decide (k ∈ lvl)) orig) hl1 hl2 (by omega)) ?_
    rintro _ _ ⟨rfl, rfl⟩
    rw [decide_eq_true (rfl : tagsOf (fun k => decide (k ∈ lvl)) orig = tagsOf (fun k => decide (k ∈ lvl)) orig)]
    refine go ?_
    refine call lawSane ?_
    rintro _ _ ⟨rfl, rfl⟩
    refine go ?_
    refine WT_ret (rs := [.tmp 4]) Try.func3 rfl rfl rfl
end
end Go.Proofs.Ytkknhcdjdcpfcaa
