/- Walks of package isochronref11: New, Type, Refs. -/
import Derived.Test.YtkknhcdjdcpfcaaInst
import Derived.Test.YtkknhcdjdcpfcaaXRd
namespace Go.Proofs.Ytkknhcdjdcpfcaa
open Go.Sl Go.Iso
set_option linter.all false

theorem sep_triv : ∀ {L : List SP} {h : Hp}, (∀ A ∈ L, ∀ h, A h) → sep L h
  | [], _, _ => trivial
  | A :: L, h, H => ⟨Sl.nil, h, fun _ => .inl rfl, by funext b; rfl, H A (List.mem_cons_self ..) _, sep_triv fun B hB => H B (List.mem_cons_of_mem _ hB)⟩
theorem C_rheap {f : FuncId} {args : List Value} {h : Nat} {R : RS} {x : Value} (c : ∀ W : RW, RWOk R W → C Try.prog f args (rh2 h W.bo W.p R.os.length W.rs) (fun v L' => v = x ∧ L' = rh2 h W.bo W.p R.os.length W.rs)) :
    C Try.prog f args [rheapA h R] (fun v L' => v = x ∧ L' = [rheapA h R]) := by
  intro β F w hw
  have st : St β F [rheapA h R] (fun w => Calls Try.prog f args.toArray w fun e w' => ∃ v L', e = .returned v ∧ (v = x ∧ L' = [rheapA h R]) ∧ Ok β F L' w') := by
    refine st_rheap .here fun W ok => ?_
    intro w hw
    refine (((c W ok).frame (M := rsA W.rs :: rp4 W.p W.bk W.ck W.bc W.bl R.n R.K W.sp W.cs R.Lv)) β F w (by simpa using hw)).mono ?_
    rintro e w' ⟨v, L', rfl, ⟨L'', rfl, rfl, rfl⟩, hw'⟩
    refine ⟨_, _, rfl, ⟨rfl, rfl⟩, hw'.map fun h s => ?_⟩
    have := sep_fold (As := rhL _ R W) (L := []) (A := rheapA _ R) (fun k s => ⟨W, ok, s⟩) (h := h) (by simpa using s)
    exact this
  exact st w hw
section
variable {h : Nat} {R : RS}
theorem r11ThereA : C Try.prog 25 [.pointer (some ⟨h, 0, none⟩)] [rheapA h R] (fun v L' => v = .bool true ∧ L' = [rheapA h R]) := C_rheap fun _ _ => r11There
theorem r11InA (k : Int) : C Try.prog 7 [.pointer (some ⟨h, 0, none⟩), .int .i64 k] [rheapA h R] (fun v L' => v = .bool (inR R.os k) ∧ L' = [rheapA h R]) :=
  C_rheap fun W ok => by have := r11In (h := h) (bo := W.bo) (p := W.p) ok.rl k; rwa [ok.os] at this
theorem r11UsedA (k : Int) : C Try.prog 50 [.pointer (some ⟨h, 0, none⟩), .int .i64 k] [rheapA h R] (fun v L' => v = .int .i64 (if inR R.os k = true then 0 else 3) ∧ L' = [rheapA h R]) :=
  C_rheap fun W ok => by have := r11Used (h := h) (bo := W.bo) (p := W.p) ok.rl k; rwa [ok.os] at this
end
def zeroRO : RO := ⟨0, 0, [], [], []⟩
def zeroRX : RX := ⟨zeroRO, none, 0, none, 0, none, 0⟩
theorem zero_objs (z : Array Value) (hz : z.size = 5) (hz' : z.toList = rV zeroRX) : ∀ n, (List.range (n * 5)).map (fun i => z[i % 5]!) = encRs (List.replicate n zeroRX)
  | 0 => rfl
  | n + 1 => by
    have ih := zero_objs z hz hz' n
    rw [show (n + 1) * 5 = n * 5 + 5 by omega, List.range_add, List.map_append, ih, List.replicate_succ', encRs, encRs, List.flatMap_append]
    congr 1
    simp only [List.flatMap_cons, List.flatMap_nil, List.append_nil, ← hz']
    apply List.ext_getElem
    · simp [hz]
    · intro i h1 h2
      have hi : i < 5 := by simpa using h1
      simp [Nat.mod_eq_of_lt hi, hz, hi, Nat.mul_add_mod, Nat.add_mod]
theorem r11New {n : Nat} (h0 : 0 < n ∧ n ≤ 24) : C Try.prog 19 [.int .i64 (n : Int)] []
    (fun v L' => ∃ h, v = .tuple [.pointer (some ⟨h, 0, none⟩), .int .i64 0].toArray ∧ L' = [rheapA h { n := n, K := List.replicate n (-1), Lv := List.replicate (16 * n) false, os := List.replicate 193 zeroRO }]) := by
  refine C_enter1 Try.func19 rfl rfl rfl fun β F => ?_
  refine go ?_
  refine call (r10New h0) ?_
  rintro _ _ ⟨p, bk, ck, bc, bl, sp, cs, rfl, ok, rfl⟩
  refine go ?_
  refine WO_makeSlice (len := 193) (cap := 193) (l := encRs (List.replicate 193 zeroRX)) rfl rfl rfl (Nat.le_refl _) (by rw [if_neg (by omega)]; exact zero_objs _ rfl rfl 193) (by omega) (by decide) rfl rfl rfl fun bo => ?_
  refine go ?_
  refine WO_box rfl rfl rfl rfl rfl rfl fun h => ?_
  refine go ?_
  refine st_fold (A := rsA (List.replicate 193 zeroRX)) (As := []) .nil (fun k _ => sep_triv fun A hA => by
    obtain ⟨x, hx, hA⟩ := List.mem_flatMap.1 hA
    have := List.eq_of_mem_replicate hx
    subst this
    simp only [rO, List.mem_cons, List.not_mem_nil, or_false] at hA
    rcases hA with rfl | rfl | rfl <;> exact fun h => own_nil h) ?_
  have hln : (List.replicate 193 zeroRO).length = 193 := List.length_replicate
  refine st_toRheap (R := { n := n, K := List.replicate n (-1), Lv := List.replicate (16 * n) false, os := List.replicate 193 zeroRO }) ⟨bo, p, List.replicate 193 zeroRX, bk, ck, bc, bl, sp, cs⟩ ⟨List.map_replicate, ok, by show (List.replicate 193 zeroRO).length ≤ 1000; rw [hln]; omega⟩ (by
    show Rems (rh2 h bo p (List.replicate 193 zeroRO).length (List.replicate 193 zeroRX) ++ _) _ _
    rw [hln]
    exact remsA) ?_
  refine pickN (As := [rheapA h { n := n, K := List.replicate n (-1), Lv := List.replicate (16 * n) false, os := List.replicate 193 zeroRO }]) ?_
  refine WT_ret (rs := [.tmp 2, .tmp 3]) Try.func19 rfl rfl ⟨h, rfl, rfl⟩
/-- The references of an object, those of its first k slots. -/
def refsRk (o : RO) : Nat → List Int
  | 0 => []
  | k + 1 => refsRk o k ++ if o.refs.getD k false = true ∧ o.slots.getD k 0 ≠ 0 then [o.slots.getD k 0] else []
theorem refsRk_le (o : RO) : ∀ k, (refsRk o k).length ≤ k
  | 0 => by simp [refsRk]
  | k + 1 => by
    have := refsRk_le o k
    simp only [refsRk, List.length_append]
    split <;> simp <;> omega
/-- .. of a handle. -/
def refsO (os : List RO) (k : Int) : List Int := if inR os k = true then refsRk (os.getD k.toNat default) (os.getD k.toNat default).slots.length else []
section
variable {h : Nat} {R : RS}
theorem r11Type (k : Int) : C Try.prog 91 [.pointer (some ⟨h, 0, none⟩), .int .i64 k] [rheapA h R]
    (fun v L' => ∃ x y z : Int, v = .tuple [.int .i64 x, .int .i64 y, .int .i64 z, .int .i64 (if inR R.os k = true then 0 else 3)].toArray ∧ L' = [rheapA h R]) := by
  refine C_enter2 Try.func91 rfl rfl rfl fun β F => ?_
  refine go ?_
  refine call (r11UsedA k) ?_
  rintro _ _ ⟨rfl, rfl⟩
  by_cases hin : inR R.os k = true
  · rw [if_pos hin]
    refine st_rheap .here fun W ok => ?_
    have hl := ok.rl
    have hnn := ok.len
    have hin' := hin
    rw [← ok.os] at hin'
    obtain ⟨m, x, rfl, hm, hx, hg, _⟩ := inR_get hl hin'
    obtain ⟨o, rp, rc, sp2, sc, bp, bcc⟩ := x
    have hat := encRs_at hx
    dsimp only [rV] at hat
    rw [← Nat.zero_add (m * 5)] at hat
    refine go ?_
    refine WO_alloc (l := [.int .i64 0, .int .i64 0, .slice none 0 0, .slice none 0 0, .slice none 0 0]) rfl rfl rfl rfl rfl fun ob => ?_
    refine go ?_
    refine WO_storeAll (b := ob) (l := [.int .i64 0, .int .i64 0, .slice none 0 0, .slice none 0 0, .slice none 0 0]) (vs := rV ⟨o, rp, rc, sp2, sc, bp, bcc⟩) rfl rfl rfl (by intro v hv; simp only [rV, List.mem_cons, List.not_mem_nil, or_false] at hv; rcases hv with rfl | rfl | rfl | rfl | rfl <;> rfl) rfl updA rfl rfl ?_
    refine go ?_
    refine WT_quiet (by kernel_rfl) ?_
    refine go ?_
    refine st_toRheap (R := R) W ok remsA ?_
    refine pickN (As := [rheapA h R]) ?_
    refine WT_ret (rs := [.tmp 4, .tmp 5, .tmp 6, .tmp 7]) Try.func91 rfl rfl ⟨_, _, _, rfl, rfl⟩
  · rw [if_neg hin]
    refine go ?_
    refine WT_ret (rs := [.tmp 4, .tmp 5, .tmp 6, .tmp 7]) Try.func91 rfl rfl ⟨_, _, _, rfl, rfl⟩
set_option maxHeartbeats 4000000 in
theorem r11Refs (hok : ∀ o ∈ R.os, o.kind ≠ 0 → ROOk o) (k : Int) : C Try.prog 26 [.pointer (some ⟨h, 0, none⟩), .int .i64 k] [rheapA h R]
    (fun v L' => ∃ s e, v = .tuple [s, .int .i64 e].toArray ∧ L' = [rheapA h R, ownS 3 1 s ((refsO R.os k).map encI)]) := by
  refine C_enter2 Try.func26 rfl rfl rfl fun β F => ?_
  refine go ?_
  refine call (r11UsedA k) ?_
  rintro _ _ ⟨rfl, rfl⟩
  by_cases hin : inR R.os k = true
  · rw [if_pos hin]
    refine st_rheap .here fun W ok => ?_
    have hl := ok.rl
    have hnn := ok.len
    have hin' := hin
    rw [← ok.os] at hin'
    obtain ⟨m, x, rfl, hm, hx, hg, hkind⟩ := inR_get hl hin'
    have hgd : R.os.getD m default = x.o := by rw [← ok.os, List.getD_eq_getElem?_getD, hg]; rfl
    have hy' : R.os[m]? = some x.o := by rw [← ok.os]; exact hg
    have hoo := hok x.o (List.mem_of_getElem? hy') hkind
    have eR : refsO R.os (m : Int) = refsRk x.o x.o.slots.length := by rw [refsO, if_pos hin, Int.toNat_natCast, hgd]
    rw [eR]
    obtain ⟨o, rp, rc, sp2, sc, bp, bcc⟩ := x
    dsimp only at hgd hy' hoo hkind ⊢
    have hlr := hoo.refs
    have h48 := hoo.len
    have hat := encRs_at hx
    dsimp only [rV] at hat
    rw [← Nat.zero_add (m * 5)] at hat
    refine go ?_
    refine WO_alloc (l := [.int .i64 0, .int .i64 0, .slice none 0 0, .slice none 0 0, .slice none 0 0]) rfl rfl rfl rfl rfl fun ob => ?_
    refine go ?_
    refine WO_storeAll (b := ob) (l := [.int .i64 0, .int .i64 0, .slice none 0 0, .slice none 0 0, .slice none 0 0]) (vs := rV ⟨o, rp, rc, sp2, sc, bp, bcc⟩) rfl rfl rfl (by intro v hv; simp only [rV, List.mem_cons, List.not_mem_nil, or_false] at hv; rcases hv with rfl | rfl | rfl | rfl | rfl <;> rfl) rfl updA rfl rfl ?_
    refine go ?_
    refine WT_keep [9, 8, 7, 5] rfl ?_
    refine st_fold (A := ownS 3 1 (.slice none 0 0) ((refsRk o 0).map encI)) (As := []) .nil (fun h _ => own_nil h) ?_
    refine pickN (As := cel ob [.int .i64 o.kind, .int .i64 o.cls, .slice rp o.refs.length rc, .slice sp2 o.slots.length sc, .slice bp o.blocks.length bcc] 73 :: ownS 3 1 (.slice none 0 0) ((refsRk o 0).map encI) :: rhL h R W) ?_
    refine WT_loopX o.slots.length (fun i lv => ∃ p n c, lv = .slice p n c) (fun i lv => [(9, .int .i64 (i : Int)), (8, lv), (7, .pointer (some ⟨ob, 0, none⟩)), (5, .int .i64 0)])
      (fun i lv => cel ob [.int .i64 o.kind, .int .i64 o.cls, .slice rp o.refs.length rc, .slice sp2 o.slots.length sc, .slice bp o.blocks.length bcc] 73 :: ownS 3 1 lv ((refsRk o i).map encI) :: rhL h R W) ?_ 0 (.slice none 0 0) (Nat.zero_le _) ⟨_, _, _, rfl⟩
    intro i lv hi hlv ih
    obtain ⟨pl, nl, cl, rfl⟩ := hlv
    by_cases hlt : i < o.slots.length
    · obtain ⟨b, hb⟩ : ∃ b, o.refs[i]? = some b := ⟨o.refs[i]'(by omega), by simp⟩
      obtain ⟨y, hy⟩ : ∃ y, o.slots[i]? = some y := ⟨o.slots[i], by simp⟩
      have hgb : o.refs.getD i false = b := by rw [List.getD_eq_getElem?_getD, hb]; rfl
      have hgy : o.slots.getD i 0 = y := by rw [List.getD_eq_getElem?_getD, hy]; rfl
      refine st_ro hx remA fun Q hQ => ?_
      refine st_own (T := 4) (sz := 1) (l := o.refs.map encBo) (s := .slice rp o.refs.length rc) remA (fun hs0 h0 => ?_) (fun bR NR cR spR hvR hlR hspR hcR => ?_)
      · have := congrArg List.length h0; rw [List.length_map, List.length_nil] at this; omega
      cases hvR
      refine st_own (T := 3) (sz := 1) (l := o.slots.map encI) (s := .slice sp2 o.slots.length sc) remA (fun hs h0 => ?_) (fun bs Ns cc sps hvs hls hsps hcs => ?_)
      · have := congrArg List.length h0; rw [List.length_map, List.length_nil] at this; omega
      cases hvs
      have atS := map_at (f := encI) hy sps
      have hback : ∀ k, sep [cel bR (o.refs.map encBo ++ spR) 4, cel bs (o.slots.map encI ++ sps) 3, ownS 3 1 (.slice bp o.blocks.length bcc) (o.blocks.map encN), Q] k → rsA W.rs k := fun k s => by
        have := hQ ⟨o, some ⟨bR, 0, none⟩, rc, some ⟨bs, 0, none⟩, sc, bp, bcc⟩ k (star_mono (fun h a => own_mk hlR hspR hcR h (star_true a)) (fun h s => star_mono (fun h a => own_mk hls hsps hcs h (star_true a)) (fun _ x => x) s) s)
        rwa [set_self hx] at this
      refine pickN (As := cel ob [.int .i64 o.kind, .int .i64 o.cls, .slice (some ⟨bR, 0, none⟩) o.refs.length rc, .slice (some ⟨bs, 0, none⟩) o.slots.length sc, .slice bp o.blocks.length bcc] 73 :: cel bR (o.refs.map encBo ++ spR) 4 :: cel bs (o.slots.map encI ++ sps) 3 ::
        ownS 3 1 (.slice pl nl cl) ((refsRk o i).map encI) :: ownS 3 1 (.slice bp o.blocks.length bcc) (o.blocks.map encN) :: Q :: (rh2 h W.bo W.p R.os.length W.rs ++ rp4 W.p W.bk W.ck W.bc W.bl R.n R.K W.sp W.cs R.Lv)) ?_
      by_cases hbt : b = true
      · have atR := map_at (f := encBo) (show o.refs[i]? = some true by rw [hb, hbt]) spR
        by_cases hy0 : y = 0
        · have eN : refsRk o (i + 1) = refsRk o i := by simp [refsRk, hy, hy0]
          refine go ?_
          refine WT_keep [9, 8, 7, 5] rfl ?_
          refine st_fold (A := rsA W.rs) (As := [cel bR (o.refs.map encBo ++ spR) 4, cel bs (o.slots.map encI ++ sps) 3, ownS 3 1 (.slice bp o.blocks.length bcc) (o.blocks.map encN), Q]) remsA hback ?_
          have := ih (.slice pl nl cl) hlt ⟨_, _, _, rfl⟩
          rw [eN] at this
          exact pickN this
        · have eN : refsRk o (i + 1) = refsRk o i ++ [y] := by simp [refsRk, hy, hy0, hb, hbt]
          have hle := refsRk_le o i
          refine go ?_
          refine WO_append1 (s := .slice pl nl cl) (l := (refsRk o i).map encI) (u := encI y) rfl rfl rfl rfl rfl rfl rfl rfl (fun _ => rfl) (by rw [List.length_map]; omega) (by decide) rfl (fun _ => rfl) rfl rfl fun v' b' => ?_
          refine st_ownV .here fun pv' nv' cv' hv' => ?_
          subst hv'
          have eq1 : (refsRk o i).map encI ++ [encI y] = (refsRk o (i + 1)).map encI := by rw [eN, List.map_append]; rfl
          rw [eq1]
          refine go ?_
          refine WT_keep [9, 8, 7, 5] rfl ?_
          refine st_fold (A := rsA W.rs) (As := [cel bR (o.refs.map encBo ++ spR) 4, cel bs (o.slots.map encI ++ sps) 3, ownS 3 1 (.slice bp o.blocks.length bcc) (o.blocks.map encN), Q]) remsA hback ?_
          exact pickN (ih (.slice pv' nv' cv') hlt ⟨_, _, _, rfl⟩)
      · have hbt := Bool.eq_false_iff.2 hbt
        have atR := map_at (f := encBo) (show o.refs[i]? = some false by rw [hb, hbt]) spR
        have eN : refsRk o (i + 1) = refsRk o i := by simp [refsRk, hb, hbt]
        refine go ?_
        refine WT_keep [9, 8, 7, 5] rfl ?_
        refine st_fold (A := rsA W.rs) (As := [cel bR (o.refs.map encBo ++ spR) 4, cel bs (o.slots.map encI ++ sps) 3, ownS 3 1 (.slice bp o.blocks.length bcc) (o.blocks.map encN), Q]) remsA hback ?_
        have := ih (.slice pl nl cl) hlt ⟨_, _, _, rfl⟩
        rw [eN] at this
        exact pickN this
    · have hin2 : i = o.slots.length := by omega
      subst hin2
      refine go ?_
      refine st_toRheap (R := R) W ok remsA ?_
      refine pickN (As := [rheapA h R, ownS 3 1 (.slice pl nl cl) ((refsRk o o.slots.length).map encI)]) ?_
      refine WT_ret (rs := [.tmp 4, .tmp 5]) Try.func26 rfl rfl ⟨_, _, rfl, rfl⟩
  · rw [if_neg hin]
    have eR : refsO R.os k = [] := by rw [refsO, if_neg hin]
    rw [eR]
    refine go ?_
    refine st_fold (A := ownS 3 1 (.slice none 0 0) (([] : List Int).map encI)) (As := []) .nil (fun h _ => own_nil h) ?_
    refine pickN (As := [rheapA h R, ownS 3 1 (.slice none 0 0) (([] : List Int).map encI)]) ?_
    refine WT_ret (rs := [.tmp 4, .tmp 5]) Try.func26 rfl rfl ⟨_, _, rfl, rfl⟩
end
end Go.Proofs.Ytkknhcdjdcpfcaa
