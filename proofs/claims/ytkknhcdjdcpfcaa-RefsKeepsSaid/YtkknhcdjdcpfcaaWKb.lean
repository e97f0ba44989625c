/- The first loop of RefsKeeps: the entries are added. -/
import Derived.Test.YtkknhcdjdcpfcaaInst
import Derived.Test.YtkknhcdjdcpfcaaWKa
namespace Go.Proofs.Ytkknhcdjdcpfcaa
open Go.Sl Go.Iso
set_option linter.all false
section
variable {pl pr pe : Option Addr} {nl cl nr cr ne ce : Nat} {lk en : Nat → Nat → Int} {ir : Src} {roots : List Int}
variable {β : Bs} {F : SP} {b h r m t u n : Nat} {mn : Option Addr} {H : HS} {sl : Nat → Nat → Int} {col1 : Col} {lvl : List Int} {plv : Option Addr} {nlv clv : Nat}
set_option maxHeartbeats 16000000 in
theorem keepsB {k : List Item} {pk : Option Addr} {nk ck : Nat} (hn12 : n ≤ 12) (hPH : PH n sl H) (hlvl : lvl.length ≤ 193) (hae : ArgL F pe ne en)
    (hk : ∀ (orig : List Ent) (po pk : Option Addr) (co nk ck : Nat), orig.length ≤ 20 → (∀ e ∈ orig, EntOk H e) → St β F [ownS 3 1 (.slice plv nlv clv) (lvl.map encI), rheapA r { RB n with os := osB n sl }, bothA b h r (some ⟨m, 0, none⟩) mn t u, markA m h col1 [], heapA h H, tabA t { emptyT with ents := orig }, ownS 47 3 (.slice po orig.length co) (encEs orig), ownS 3 1 (.slice pk nk ck) ((lvl ++ finT orig).map encI)]
      (WT Try.prog 3 β F 252 keepsR k [(11, .slice pk nk ck), (10, .slice po orig.length co), (8, .slice plv nlv clv), (5, .pointer (some ⟨b, 0, none⟩))])) :
    St β F [ownS 3 1 (.slice plv nlv clv) (lvl.map encI), rheapA r { RB n with os := osB n sl }, bothA b h r (some ⟨m, 0, none⟩) mn t u, markA m h col1 [], heapA h H, tabA t { emptyT with ents := [] }, ownS 47 3 (.slice none 0 0) (encEs []), ownS 3 1 (.slice pk nk ck) ((lvl ++ finT []).map encI)]
      (WT Try.prog 3 β F 252 keepsR (.code (.loop lp0) :: .inBlock 0 :: k) [(12, .int .i64 0), (11, .slice pk nk ck), (10, .slice none 0 0), (8, .slice plv nlv clv), (5, .pointer (some ⟨b, 0, none⟩)), (1, .slice pe ne ce)]) := by
  obtain ⟨Nn, hNn⟩ : ∃ Nn, Nn = min ne 20 := ⟨_, rfl⟩
  refine WT_loopX Nn (fun i (x : List Ent × Value × Value) => x.1.length ≤ i ∧ (∀ e ∈ x.1, EntOk H e) ∧ (∃ p c, x.2.1 = .slice p x.1.length c) ∧ (∃ p n c, x.2.2 = .slice p n c))
    (fun i x => [(12, .int .i64 (i : Int)), (11, x.2.2), (10, x.2.1), (8, .slice plv nlv clv), (5, .pointer (some ⟨b, 0, none⟩)), (1, .slice pe ne ce)])
    (fun _ x => [ownS 3 1 (.slice plv nlv clv) (lvl.map encI), rheapA r { RB n with os := osB n sl }, bothA b h r (some ⟨m, 0, none⟩) mn t u, markA m h col1 [], heapA h H, tabA t { emptyT with ents := x.1 }, ownS 47 3 x.2.1 (encEs x.1), ownS 3 1 x.2.2 ((lvl ++ finT x.1).map encI)]) ?_ 0 ([], .slice none 0 0, .slice pk nk ck) (Nat.zero_le _) ⟨Nat.le_refl _, fun e he => (by cases he), ⟨_, _, rfl⟩, ⟨_, _, _, rfl⟩⟩
  rintro i ⟨orig, lv, kv⟩ hi ⟨hol, hoe, ⟨po, co, hlo⟩, ⟨pk, nk, ck, hko⟩⟩ ih
  dsimp only at hol hoe hlo hko ih ⊢
  subst hlo hko
  by_cases hlt : i < Nn
  · have hi20 : (i : Int) < 20 := by omega
    have hine : (i : Int) < (ne : Int) := by omega
    have hine' : i < ne := by omega
    obtain ⟨be, off, ls, T, fr, hpe, hHas, hls⟩ := hae (by omega)
    subst hpe
    have hat1 := hls i 0 hine' (by omega)
    have hat2 := hls i 1 hine' (by omega)
    have h02 : (0 : Nat) < 2 := by decide
    refine go ?_
    refine WO_q (OpU.has hHas (fun _ => qq) rfl) rfl rfl rfl ?_
    clear h02
    have h12 : (1 : Nat) < 2 := by decide
    refine WO_q (q_and rfl rfl rfl) rfl rfl rfl ?_
    have hand := andN_le (en i 0)
    refine go ?_
    refine WT_tail 9 (by kernel_rfl) (.succ (.succ (.succ (.succ (.succ (.succ (.succ (.succ (.succ (.zero)))))))))) ?_
    refine go ?_
    refine WQ_q (OpU.has hHas (fun _ => qq) rfl) rfl rfl rfl ?_
    refine go ?_
    have hIn := r11InA (h := r) (R := { RB n with os := osB n sl }) (en i 1)
    dsimp only at hIn
    refine call hIn ?_
    rintro _ _ ⟨rfl, rfl⟩
    cases hiy : inR (osB n sl) (en i 1) with
    | false =>
      refine go ?_
      refine WT_keep [12, 11, 10, 8, 5, 1] rfl ?_
      exact pickN (ih (orig, .slice po orig.length co, .slice pk nk ck) hlt ⟨by show orig.length ≤ i + 1; omega, hoe, ⟨_, _, rfl⟩, ⟨_, _, _, rfl⟩⟩)
    | true =>
      obtain ⟨kk, hkk⟩ : ∃ kk : Nat, kk = 1 + andN (en i 0) % 3 := ⟨_, rfl⟩
      rw [← hkk]
      have hk13 : kk = 1 ∨ kk = 2 ∨ kk = 3 := by omega
      have hu : usedB H (en i 1) = true := by rw [hPH.agree hn12]; exact hiy
      have hpos : en i 1 ≠ 0 := by have := inR_pos hiy; omega
      have hadd : addT { emptyT with ents := orig } H (kk : Int) (en i 1) (i : Int) = ((orig.length : Int), 0, { emptyT with ents := orig ++ [⟨(kk : Int), en i 1, (i : Int)⟩] }) := by
        rw [addT, if_neg (by omega), if_neg (by show ¬ (0 : Int) < 0; decide), if_neg (by rw [hu]; decide), if_neg (by show ¬ 20 ≤ orig.length; omega)]
      have heo : EntOk H ⟨(kk : Int), en i 1, (i : Int)⟩ := ⟨by show (kk : Int) = 1 ∨ (kk : Int) = 2 ∨ (kk : Int) = 3; omega, hu, hpos⟩
      have hoe' : ∀ e ∈ orig ++ [⟨(kk : Int), en i 1, (i : Int)⟩], EntOk H e := fun e he => by
        rcases List.mem_append.1 he with he | he
        · exact hoe e he
        · rw [List.mem_singleton.1 he]; exact heo
      refine go ?_
      refine WT_inv [bothA b h r (some ⟨m, 0, none⟩) mn t u] ?_
      refine WI_q 0 rfl qq rfl (by kernel_rfl) rfl rfl rfl ?_ remsA
      refine WI_q 1 rfl qq rfl (by kernel_rfl) rfl rfl rfl ?_ remsA
      refine WI_q 2 rfl qq rfl (by kernel_rfl) rfl rfl rfl ?_ remsA
      refine WI_q 3 rfl qq rfl (by kernel_rfl) rfl rfl rfl ?_ remsA
      refine WI_q 4 rfl qq rfl (by kernel_rfl) rfl rfl rfl ?_ remsA
      refine WI_q 5 rfl qq rfl (by kernel_rfl) rfl rfl rfl ?_ remsA
      refine WI_q 6 rfl qq rfl (by kernel_rfl) rfl rfl rfl ?_ remsA
      refine WI_q 7 rfl qq rfl (by kernel_rfl) rfl rfl rfl ?_ remsA
      refine WI_q 8 rfl qq rfl (by kernel_rfl) rfl rfl rfl ?_ remsA
      refine WI_q 9 rfl qq rfl (by kernel_rfl) rfl rfl rfl ?_ remsA
      refine WI_q 10 rfl qq rfl (by kernel_rfl) rfl rfl rfl ?_ remsA
      refine WI_q 11 rfl qq rfl (by kernel_rfl) rfl rfl rfl ?_ remsA
      refine WI_q 12 rfl qq rfl (by kernel_rfl) rfl rfl rfl ?_ remsA
      refine WI_q 13 rfl (OpU.has hHas (fun _ => qq) rfl) rfl (by kernel_rfl) rfl rfl rfl ?_ remsA
      refine WI_q 14 rfl qq rfl (by kernel_rfl) rfl rfl rfl ?_ remsA
      refine WI_one 15 (by kernel_rfl) rfl ?_
      refine call (tabAdd (t := t) (m := m) (h := h) (S := { emptyT with ents := orig }) (H := H) (col := col1) (l := []) (kind := (kk : Int)) (target := en i 1) (tag := (i : Int)) (by show orig.length ≤ 100; omega)) ?_
      rintro _ _ ⟨rfl, rfl⟩
      rw [hadd]
      refine WI_nil ?_ remsA
      refine WI_q 16 rfl qq rfl (by kernel_rfl) rfl rfl rfl ?_ remsA
      refine WI_q 17 rfl qq rfl (by kernel_rfl) rfl rfl rfl ?_ remsA
      refine WI_q 19 rfl qq rfl (by kernel_rfl) rfl rfl rfl ?_ remsA
      refine WI_q 18 rfl qq rfl (by kernel_rfl) rfl rfl rfl ?_ remsA
      refine WI_q 20 rfl qq rfl (by kernel_rfl) rfl rfl rfl ?_ remsA
      refine WI_done (by kernel_rfl) ?_
      refine WT_keep (E' := [(15, .int .i64 0), (14, .int .i64 (orig.length : Int)), (13, .int .i64 (kk : Int)), (12, .int .i64 (i : Int)), (11, .slice pk nk ck), (10, .slice po orig.length co), (8, .slice plv nlv clv), (5, .pointer (some ⟨b, 0, none⟩)), (1, .slice (some ⟨be, off, none⟩) ne ce)]) [15, 14, 13, 12, 11, 10, 8, 5, 1] rfl ?_
      refine go ?_
      refine WO_q (OpU.has hHas (fun _ => qq) rfl) rfl rfl rfl ?_
      refine go ?_
      refine WO_append3 (s := .slice po orig.length co) (l := encEs orig) (a1 := .int .i64 (kk : Int)) (a2 := .int .i64 (en i 1)) (a3 := .int .i64 (i : Int)) (z1 := .int .i64 0) (z2 := .int .i64 0) (z3 := .int .i64 0) rfl rfl rfl rfl rfl rfl rfl rfl rfl (fun _ => rfl) (by rw [encEs_length]; omega) (by decide) (fun _ => rfl) rfl rfl fun v' b' => ?_
      have eq3 : encEs orig ++ [.int .i64 (kk : Int), .int .i64 (en i 1), .int .i64 (i : Int)] = encEs (orig ++ [⟨(kk : Int), en i 1, (i : Int)⟩]) := by simp [encEs, encE]
      rw [eq3]
      refine st_ownL (T := 47) (sz := 3) (s := v') (l := encEs (orig ++ [⟨(kk : Int), en i 1, (i : Int)⟩])) .here fun po' no' co' hv' hlb' => ?_
      have hno : no' = (orig ++ [(⟨(kk : Int), en i 1, (i : Int)⟩ : Ent)]).length := by rw [encEs_length] at hlb'; omega
      subst hv' hno
      have hol' : (orig ++ [(⟨(kk : Int), en i 1, (i : Int)⟩ : Ent)]).length ≤ i + 1 := by rw [List.length_append]; simp; omega
      refine WO_keep [124, 13, 12, 11, 8, 5, 1] rfl ?_
      by_cases hk2 : (kk : Int) = 2
      · refine go ?_
        refine WO_q (OpU.has hHas (fun _ => qq) rfl) rfl rfl rfl ?_
        refine go ?_
        have hft := finT_le orig
        refine WO_append1 (s := .slice pk nk ck) (l := (lvl ++ finT orig).map encI) (u := encI (en i 1)) rfl rfl rfl rfl rfl rfl rfl rfl (fun _ => rfl) (by rw [List.length_map, List.length_append]; omega) (by decide) rfl (fun _ => rfl) rfl rfl fun v2 b2 => ?_
        refine st_ownV .here fun pk' nk' ck' hv2 => ?_
        subst hv2
        have eqk : (lvl ++ finT orig).map encI ++ [encI (en i 1)] = (lvl ++ finT (orig ++ [⟨(kk : Int), en i 1, (i : Int)⟩])).map encI := by rw [finT_snoc, if_pos hk2]; simp
        rw [eqk]
        refine go ?_
        refine WT_keep [12, 11, 10, 8, 5, 1] rfl ?_
        exact pickN (ih (orig ++ [(⟨(kk : Int), en i 1, (i : Int)⟩ : Ent)], .slice po' _ co', .slice pk' nk' ck') hlt ⟨hol', hoe', ⟨_, _, rfl⟩, ⟨_, _, _, rfl⟩⟩)
      · have eqk : (lvl ++ finT orig).map encI = (lvl ++ finT (orig ++ [⟨(kk : Int), en i 1, (i : Int)⟩])).map encI := by rw [finT_snoc, if_neg hk2]; simp
        rw [eqk]
        refine go ?_
        refine WT_keep [12, 11, 10, 8, 5, 1] rfl ?_
        exact pickN (ih (orig ++ [(⟨(kk : Int), en i 1, (i : Int)⟩ : Ent)], .slice po' _ co', .slice pk nk ck) hlt ⟨hol', hoe', ⟨_, _, rfl⟩, ⟨_, _, _, rfl⟩⟩)
  · have hin : i = Nn := by omega
    subst hin
    clear ih
    have hfew : orig.length ≤ 20 := by omega
    have hk' := hk orig po pk co nk ck hfew hoe
    by_cases hc : (i : Int) < (ne : Int)
    · have h12 : ¬ (i : Int) < 20 := by omega
      refine go ?_
      refine WT_keep [11, 10, 8, 5] rfl ?_
      exact hk'
    · refine go ?_
      refine WT_keep [11, 10, 8, 5] rfl ?_
      exact hk'
end
end Go.Proofs.Ytkknhcdjdcpfcaa
