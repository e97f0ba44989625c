/- The middle of RefsKeeps: the table's steps are done. -/
import Derived.Test.YtkknhcdjdcpfcaaInst
import Derived.Test.YtkknhcdjdcpfcaaWKa
namespace Go.Proofs.Ytkknhcdjdcpfcaa
open Go.Sl Go.Iso
set_option linter.all false
section
variable {pl pr pe : Option Addr} {nl cl nr cr ne ce : Nat} {lk en : Nat → Nat → Int} {ir : Src} {roots : List Int}
variable {β : Bs} {F : SP} {b h r m t u n : Nat} {mn : Option Addr} {H : HS} {sl : Nat → Nat → Int} {col1 : Col} {lvl : List Int} {plv : Option Addr} {nlv clv : Nat}
set_option maxHeartbeats 16000000 in
theorem keepsC {orig : List Ent} {po pk : Option Addr} {co nk ck : Nat} (hn12 : n ≤ 12) (hPH : PH n sl H) (hsl : slOk n sl) (hlvl : lvl.length ≤ 193) (hnlv : lvl.length = nlv) (hlv : ∀ k, k ∈ lvl ↔ RchR (osB n sl) (lroots (osB n sl) roots) k) (hmk : Mk H (fun k => k ∈ lroots (osB n sl) roots) (fun _ => False) col1 []) (hc1 : ∀ j, RchR (osB n sl) (lroots (osB n sl) roots) j ↔ Go.Proofs.Ytkknhcdjdcpfcaa.cl col1 j ≠ 0)
    (hfew : orig.length ≤ 20) (hoe : ∀ e ∈ orig, EntOk H e)
    (hD : ∀ (out : List Int) (S' : TS) (ibL ibA : Src) (ps : Option Addr) (cs : Nat), out.length ≤ 193 → Left orig (fun k => decide (k ∈ lvl)) (fun k => decide (k ∈ out)) S' →
      St β F [bothA b h r (some ⟨m, 0, none⟩) mn t u, tabA t S', ownS 47 3 (.slice po orig.length co) (encEs orig), inA ibL nlv (.slice plv nlv clv) (lvl.map encI), inA ibA out.length (.slice ps out.length cs) (out.map encI), ownS 3 1 (.slice none 0 0) ((tagsOf (fun k => decide (k ∈ lvl)) (orig.take 0)).map encI)]
        (WT Try.prog 3 β F 252 keepsR [.code (.loop lp2), .inBlock 2, .code rs2] [(21, .int .i64 0), (20, .slice none 0 0), (16, .slice ps out.length cs), (10, .slice po orig.length co), (8, .slice plv nlv clv), (5, .pointer (some ⟨b, 0, none⟩))])) :
    St β F [ownS 3 1 (.slice plv nlv clv) (lvl.map encI), rheapA r { RB n with os := osB n sl }, bothA b h r (some ⟨m, 0, none⟩) mn t u, markA m h col1 [], heapA h H, tabA t { emptyT with ents := orig }, ownS 47 3 (.slice po orig.length co) (encEs orig), ownS 3 1 (.slice pk nk ck) ((lvl ++ finT orig).map encI)]
      (WT Try.prog 3 β F 252 keepsR [.code rs0] [(11, .slice pk nk ck), (10, .slice po orig.length co), (8, .slice plv nlv clv), (5, .pointer (some ⟨b, 0, none⟩))]) := by
  have hcl := osB_closed hn12 hsl
  have hoo := osB_ok (sl := sl) hn12
  refine go ?_
  refine WO_keep (E' := [(140, .slice pk nk ck), (139, .pointer (some ⟨r, 0, none⟩)), (10, .slice po orig.length co), (8, .slice plv nlv clv), (5, .pointer (some ⟨b, 0, none⟩))]) [140, 139, 10, 8, 5] rfl ?_
  have hft := finT_le orig
  refine st_ownIn (T := 3) (sz := 1) (v := .slice pk nk ck) (l := (lvl ++ finT orig).map encI) (n := (lvl ++ finT orig).length) remA (by rw [List.length_map, Nat.mul_one]) (by decide) fun ib => ?_
  have hkept : ∀ x ∈ lvl ++ finT orig, x ≠ 0 → inR (osB n sl) x = true := by
    intro x hx h0
    rcases List.mem_append.1 hx with hx | hx
    · exact rchR_in hcl lroots_ok ((hlv x).1 hx)
    · obtain ⟨e, he, rfl⟩ := List.mem_map.1 hx
      have := (hoe e (List.mem_filter.1 he).1).used
      rwa [hPH.agree hn12] at this
  have hbad : ¬ badRR (osB n sl) (lvl ++ finT orig) = true := fun hb => by
    obtain ⟨x, hx, hb⟩ := List.any_eq_true.1 hb
    simp only [Bool.and_eq_true, decide_eq_true_eq, Bool.not_eq_true'] at hb
    rw [hkept x hx hb.1] at hb
    exact absurd hb.2 (by decide)
  refine call (r11Reach (h := r) (R := { RB n with os := osB n sl }) (ib := ib) (nr := (lvl ++ finT orig).length) (v := .slice pk nk ck) (roots := lvl ++ finT orig) hoo hcl rfl (by rw [List.length_append]; omega)) ?_
  intro v' L' hR
  replace hR := (if_neg hbad).mp hR
  obtain ⟨s, out, rfl, hout, hout193, rfl⟩ := hR
  obtain ⟨ctx, hmk2⟩ := keeps_ctx hPH hn12 hsl hmk hc1 hlv hoe hfew hout
  obtain ⟨S1, nf, S', col', l', hS, hokS, hF, hnf, hL⟩ := begin_finish ctx hmk2
  refine st_ownL (T := 3) (sz := 1) (s := s) (l := out.map encI) remA fun ps ns cs hs hlo => ?_
  have hns : ns = out.length := by simpa using hlo.symm
  subst hs hns
  refine go ?_
  refine WT_tail 8 (by kernel_rfl) (.succ (.succ (.succ (.succ (.succ (.succ (.succ (.succ (.zero))))))))) ?_
  refine go ?_
  refine call (tabBegin (t := t) (m := m) (h := h) (H := H) (S := { emptyT with ents := orig }) (S' := S1) (col := col1) rfl (by show orig.length ≤ 100; omega) hS) ?_
  rintro _ _ ⟨rfl, rfl⟩
  refine go ?_
  refine WT_inv [bothA b h r (some ⟨m, 0, none⟩) mn t u] ?_
  refine WI_q 0 rfl qq rfl (by kernel_rfl) rfl rfl rfl ?_ remsA
  refine WI_q 1 rfl qq rfl (by kernel_rfl) rfl rfl rfl ?_ remsA
  refine WI_q 2 rfl qq rfl (by kernel_rfl) rfl rfl rfl ?_ remsA
  refine WI_q 3 rfl qq rfl (by kernel_rfl) rfl rfl rfl ?_ remsA
  refine WI_q 4 rfl qq rfl (by kernel_rfl) rfl rfl rfl ?_ remsA
  refine WI_q 5 rfl qq rfl (by kernel_rfl) rfl rfl rfl ?_ remsA
  refine WI_q 6 rfl qq rfl (by kernel_rfl) rfl rfl rfl ?_ remsA
  refine WI_q 7 rfl qq rfl (by kernel_rfl) rfl rfl rfl ?_ remsA
  refine WI_one 8 (by kernel_rfl) rfl ?_
  refine call (tabFinish (t := t) (m := m) (h := h) hokS hF hnf) ?_
  rintro _ _ ⟨rfl, rfl⟩
  refine WI_nil ?_ remsA
  refine WI_q 9 rfl qq rfl (by kernel_rfl) rfl rfl rfl ?_ remsA
  refine WI_q 10 rfl qq rfl (by kernel_rfl) rfl rfl rfl ?_ remsA
  refine WI_q 12 rfl qq rfl (by kernel_rfl) rfl rfl rfl ?_ remsA
  refine WI_q 11 rfl qq rfl (by kernel_rfl) rfl rfl rfl ?_ remsA
  refine WI_q 13 rfl qq rfl (by kernel_rfl) rfl rfl rfl ?_ remsA
  refine WI_done (by kernel_rfl) ?_
  refine WT_keep (E' := [(19, .int .i64 0), (16, .slice ps out.length cs), (10, .slice po orig.length co), (8, .slice plv nlv clv), (5, .pointer (some ⟨b, 0, none⟩))]) [19, 16, 10, 8, 5] rfl ?_
  refine go ?_
  refine st_ownIn (T := 3) (sz := 1) (v := .slice plv nlv clv) (l := lvl.map encI) (n := nlv) remA (by rw [List.length_map, Nat.mul_one]; exact hnlv) (by decide) fun ibL => ?_
  refine st_ownIn (T := 3) (sz := 1) (v := .slice ps out.length cs) (l := out.map encI) (n := out.length) remA (by rw [List.length_map, Nat.mul_one]) (by decide) fun ibA => ?_
  refine st_fold (A := ownS 3 1 (.slice none 0 0) ((tagsOf (fun k => decide (k ∈ lvl)) (orig.take 0)).map encI)) (As := []) .nil (fun h _ => own_nil h) ?_
  refine WT_keep [21, 20, 16, 10, 8, 5] rfl ?_
  refine pickN (As := [bothA b h r (some ⟨m, 0, none⟩) mn t u, tabA t S', ownS 47 3 (.slice po orig.length co) (encEs orig), inA ibL nlv (.slice plv nlv clv) (lvl.map encI), inA ibA out.length (.slice ps out.length cs) (out.map encI), ownS 3 1 (.slice none 0 0) ((tagsOf (fun k => decide (k ∈ lvl)) (orig.take 0)).map encI)]) ?_
  exact hD out S' ibL ibA ps cs hout193 hL
end
end Go.Proofs.Ytkknhcdjdcpfcaa
