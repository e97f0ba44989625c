/- The beginning of RefsKeeps. -/
import Derived.Test.YtkknhcdjdcpfcaaInst
import Derived.Test.YtkknhcdjdcpfcaaWKa
namespace Go.Proofs.Ytkknhcdjdcpfcaa
open Go.Sl Go.Iso
set_option linter.all false
section
variable {pl pr pe : Option Addr} {nl cl nr cr ne ce : Nat} {lk en : Nat → Nat → Int} {ir : Src} {roots : List Int}
set_option maxHeartbeats 16000000 in
theorem keepsA (hlen : roots.length = nr) (hcap : nr ≤ cr) (hsv : SrcV ir nr (.slice pr nr cr) (roots.map encI))
    (hB : ∀ (β : Bs) (F : SP) (b h r m t u n : Nat) (mn : Option Addr) (H : HS) (sl : Nat → Nat → Int) (col1 : Col) (lvl : List Int) (plv pk : Option Addr) (nlv clv nk ck : Nat), n ≤ 12 → PH n sl H → slOk n sl → lvl.length ≤ 193 → lvl.length = nlv → ArgL F pe ne en → (∀ k, k ∈ lvl ↔ RchR (osB n sl) (lroots (osB n sl) roots) k) → Mk H (fun k => k ∈ lroots (osB n sl) roots) (fun _ => False) col1 [] → (∀ j, RchR (osB n sl) (lroots (osB n sl) roots) j ↔ Go.Proofs.Ytkknhcdjdcpfcaa.cl col1 j ≠ 0) →
      St β F [ownS 3 1 (.slice plv nlv clv) (lvl.map encI), rheapA r { RB n with os := osB n sl }, bothA b h r (some ⟨m, 0, none⟩) mn t u, markA m h col1 [], heapA h H, tabA t { emptyT with ents := [] }, ownS 47 3 (.slice none 0 0) (encEs []), ownS 3 1 (.slice pk nk ck) ((lvl ++ finT []).map encI)]
        (WT Try.prog 3 β F 252 keepsR [.code (.loop lp0), .inBlock 0, .code rs0] [(12, .int .i64 0), (11, .slice pk nk ck), (10, .slice none 0 0), (8, .slice plv nlv clv), (5, .pointer (some ⟨b, 0, none⟩)), (1, .slice pe ne ce)])) :
    CH Try.prog (fun F => (Up F ∧ ArgL F pl nl lk ∧ HasS F ir) ∧ ArgL F pe ne en) 3 [.agg [.slice pl nl cl, .slice pr nr cr].toArray, .slice pe ne ce] []
      (fun v L' => v = .bool true) := by
  refine CH_enter2 Try.func3 rfl rfl rfl fun β F hF => ?_
  obtain ⟨⟨hup, hal, hhs⟩, hae⟩ := hF
  have hat0 : (([.slice pl nl cl, .slice pr nr cr] : List Value).drop 0).take 2 = [.slice pl nl cl, .slice pr nr cr] := rfl
  refine go ?_
  refine WO_box (l := [.slice pl nl cl, .slice pr nr cr]) rfl rfl rfl rfl rfl rfl fun sb => ?_
  refine go ?_
  refine WO_callH (M := [cel sb [.slice pl nl cl, .slice pr nr cr] 25]) ⟨hup.star, hal.star, hhs.star⟩ (lawBegin (pl := pl) (nl := nl) (cl := cl) (lk := lk) hlen hcap hsv) rfl rfl .nil rfl rfl rfl ?_
  rintro _ _ ⟨b, h, r, m, mn, t, u, H, sl, rfl, hPH, hsl, rfl⟩
  obtain ⟨n, hn⟩ : ∃ n, n = min nl 12 := ⟨_, rfl⟩
  rw [← hn] at hPH hsl ⊢
  have hn12 : n ≤ 12 := by omega
  have hcl := osB_closed hn12 hsl
  have hoo := osB_ok (sl := sl) hn12
  obtain ⟨kr, col1, hkr, hrun, hmk, hc1⟩ := run_first hPH hn12 hsl roots
  refine go ?_
  obtain ⟨n', hn'⟩ : ∃ n', n' = min nr 20 := ⟨_, rfl⟩
  have hl' : (roots.take 20).length = n' := by rw [List.length_take, hlen, hn', Nat.min_comm]
  have hn20 : n' ≤ 20 := by omega
  have hpv : 0 < nr → ∃ b off, pr = some ⟨b, off, none⟩ := fun h0 => by
    rcases hsv with ⟨c', _, _, h1, _⟩ | ⟨b, off, c', ls, T, fr, _, h1, _⟩
    · omega
    · cases h1; exact ⟨b, off, rfl⟩
  have hsv2 : SrcV ir n' (.slice pr n' cr) ((roots.take 20).map encI) := by rw [List.map_take]; exact hsv.cut (by omega)
  obtain ⟨F', hl1, hl2⟩ := lendIn hup hsv2 hhs
  apply join0
  · intro z
    refine WT_cond rfl (fun hc => ?_) (fun hc => ?_)
    · have h20 := of_decide_eq_true hc
      obtain ⟨bb, off, hp⟩ := hpv (by omega)
      refine go ?_
      refine WO_q (q_sliceS (l := 0) (h := 20) (off' := off) (b := bb) (off := off) rfl (by rw [hp]; rfl) rfl rfl (by omega) (by omega) (by split <;> omega)) rfl rfl rfl ?_
      rw [← hp]
      refine go ?_
      refine WO_keep (E' := [(44, .slice pr n' cr), (43, .pointer (some ⟨r, 0, none⟩)), (5, .pointer (some ⟨b, 0, none⟩)), (1, .slice pe ne ce)]) [44, 43, 5, 1] ?_ ?_
      · rw [show n' = 20 by omega]; rfl
      exact z.it
    · have h20 := of_decide_eq_false hc
      refine go ?_
      refine WO_keep (E' := [(44, .slice pr n' cr), (43, .pointer (some ⟨r, 0, none⟩)), (5, .pointer (some ⟨b, 0, none⟩)), (1, .slice pe ne ce)]) [44, 43, 5, 1] ?_ ?_
      · rw [show n' = nr by omega]; rfl
      exact z.it
  apply join3 (Pr := fun (vl : Value) (lvl : List Int) => (∃ p n c, vl = .slice p n c) ∧ (∀ k, k ∈ lvl ↔ RchR (osB n sl) (lroots (osB n sl) roots) k) ∧ lvl.length ≤ 193)
  · intro z
    have hm := (r11Reach (h := r) (R := { RB n with os := osB n sl }) (ib := ir) (nr := n') (v := .slice pr n' cr) (roots := roots.take 20) hoo hcl hl' (by omega)).pre
      (L := [inA ir n' (.slice pr n' cr) ((roots.take 20).map encI), rheapA r { RB n with os := osB n sl }]) (fun h s => sep_perm (List.perm_append_comm (l₁ := [_])) s)
    refine WO_callLent hl1 hl2 hm (R' := fun v L' => if badRR (osB n sl) (roots.take 20) = true then v = .tuple [.slice none 0 0, .int .i64 3].toArray ∧ L' = [rheapA r { RB n with os := osB n sl }]
          else ∃ (s : Value) (out : List Int), v = .tuple [s, .int .i64 0].toArray ∧ (∀ k, k ∈ out ↔ RchR (osB n sl) (roots.take 20) k) ∧ out.length ≤ 193 ∧ L' = [rheapA r { RB n with os := osB n sl }, ownS 3 1 s (out.map encI)])
      (fun v L' hR => by
        by_cases hb : badRR (osB n sl) (roots.take 20) = true
        · rw [if_pos hb] at hR
          obtain ⟨e1, e2⟩ := hR
          exact ⟨[rheapA r { RB n with os := osB n sl }], by rw [e2]; exact (List.perm_append_comm (l₁ := [_]) (l₂ := [_])), by rw [if_pos hb]; exact ⟨e1, rfl⟩⟩
        · rw [if_neg hb] at hR
          obtain ⟨s, out, e1, e2, e3, e4⟩ := hR
          exact ⟨[rheapA r { RB n with os := osB n sl }, ownS 3 1 s (out.map encI)], by rw [e4]; exact .swap _ _ _, by rw [if_neg hb]; exact ⟨s, out, e1, e2, e3, rfl⟩⟩) rfl rfl remsA rfl rfl rfl ?_
    intro v' L' hR
    by_cases hb : badRR (osB n sl) (roots.take 20) = true
    · rw [if_pos hb] at hR
      obtain ⟨rfl, rfl⟩ := hR
      have hlr : lroots (osB n sl) roots = [] := by rw [lroots, if_pos hb]
      refine go ?_
      obtain ⟨vl, hvl⟩ : ∃ vl : Value, vl = .slice none 0 0 := ⟨_, rfl⟩
      obtain ⟨lvl, hlvl⟩ : ∃ lvl : List Int, lvl = [] := ⟨_, rfl⟩
      refine st_fold (A := ownS 3 1 vl (lvl.map encI)) (As := []) .nil (fun h _ => by rw [hvl, hlvl]; exact own_nil h) ?_
      refine WO_keep (E' := [(53, .pointer (some ⟨m, 0, none⟩)), (8, vl), (5, .pointer (some ⟨b, 0, none⟩)), (1, .slice pe ne ce)]) [53, 8, 5, 1] ?_ ?_
      · rw [hvl]; rfl
      refine pickN (As := [ownS 3 1 vl (lvl.map encI), rheapA r { RB n with os := osB n sl }, bothA b h r (some ⟨m, 0, none⟩) mn t u, markA m h ((lroots (osB n sl) roots).foldl (shadeP H) (fun _ => none, [])).1 ((lroots (osB n sl) roots).foldl (shadeP H) (fun _ => none, [])).2, heapA h H, tabA t emptyT]) ?_
      refine z vl lvl ⟨⟨_, _, _, hvl⟩, fun k => ⟨fun h => (by rw [hlvl] at h; cases h), fun hr => ?_⟩, by rw [hlvl]; decide⟩
      rw [hlr] at hr
      exfalso
      induction hr with
      | root a _ => cases a
      | edge _ _ ih => exact ih
    · rw [if_neg hb] at hR
      obtain ⟨s, out, rfl, hout, hol, rfl⟩ := hR
      have hlr : lroots (osB n sl) roots = roots.take 20 := by rw [lroots, if_neg hb]
      refine st_ownV (T := 3) (sz := 1) (s := s) (l := out.map encI) remA fun ps ns cs hs => ?_
      refine go ?_
      refine WO_keep (E' := [(53, .pointer (some ⟨m, 0, none⟩)), (8, s), (5, .pointer (some ⟨b, 0, none⟩)), (1, .slice pe ne ce)]) [53, 8, 5, 1] rfl ?_
      refine pickN (As := [ownS 3 1 s (out.map encI), rheapA r { RB n with os := osB n sl }, bothA b h r (some ⟨m, 0, none⟩) mn t u, markA m h ((lroots (osB n sl) roots).foldl (shadeP H) (fun _ => none, [])).1 ((lroots (osB n sl) roots).foldl (shadeP H) (fun _ => none, [])).2, heapA h H, tabA t emptyT]) ?_
      exact z s out ⟨⟨_, _, _, hs⟩, by rw [hlr]; exact hout, hol⟩
  rintro vl lvl ⟨⟨plv, nlv, clv, rfl⟩, hlv, hlvl⟩
  clear hl1 hl2
  refine go ?_
  refine call (markRun (m := m) (h := h) (H := H) hrun hkr) ?_
  rintro _ _ ⟨rfl, rfl⟩
  refine go ?_
  refine WO_buildSlice0 rfl rfl rfl rfl fun bz => ?_
  refine go ?_
  refine st_fold (A := ownS 3 1 (.slice (some ⟨bz, 0, none⟩) 0 0) ([] : List Value)) (As := [cel bz ([] : List Value) 3]) remsA (fun h s => own_mk (l := []) (sp := []) rfl rfl (Nat.le_refl _) h s) ?_
  refine st_ownL (T := 3) (sz := 1) (s := .slice plv nlv clv) (l := lvl.map encI) remA fun p0 n0 c0 e0 hl0 => ?_
  cases e0
  have hnlv : lvl.length = nlv := by simpa using hl0
  refine WO_append (l := []) (news := lvl.map encI) (m := nlv) rfl rfl rfl .here (fun h s => sep_src (T := 3) (v := .slice plv nlv clv) (.tail _ (.tail _ (.head _))) (by simpa using hnlv) s) (by simpa using hnlv) (one_map fun _ => rfl) rfl (by decide) (by simp; omega) (by decide) rfl rfl rfl fun kv => ?_
  refine st_ownV (T := 3) (sz := 1) (s := kv) (l := [] ++ lvl.map encI) remA fun pk nk ck hkv => ?_
  subst hkv
  refine go ?_
  have ek : [] ++ lvl.map encI = (lvl ++ finT []).map encI := by simp [finT]
  rw [ek]
  refine WT_keep [12, 11, 10, 8, 5, 1] rfl ?_
  refine st_fold (A := ownS 47 3 (.slice none 0 0) (encEs [])) (As := []) .nil (fun h _ => own_nil h) ?_
  refine pickN (As := [ownS 3 1 (.slice plv nlv clv) (lvl.map encI), rheapA r { RB n with os := osB n sl }, bothA b h r (some ⟨m, 0, none⟩) mn t u, markA m h col1 [], heapA h H, tabA t { emptyT with ents := [] }, ownS 47 3 (.slice none 0 0) (encEs []), ownS 3 1 (.slice pk nk ck) ((lvl ++ finT []).map encI)]) ?_
  exact hB β F b h r m t u n mn H sl col1 lvl plv pk nlv clv nk ck hn12 hPH hsl hlvl hnlv hae hlv hmk hc1
end
end Go.Proofs.Ytkknhcdjdcpfcaa
