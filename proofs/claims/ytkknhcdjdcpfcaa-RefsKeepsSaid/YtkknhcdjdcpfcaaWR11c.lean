/- Walks of package isochronref11: Set. -/
import Derived.Test.YtkknhcdjdcpfcaaInst
import Derived.Test.YtkknhcdjdcpfcaaWR11b
namespace Go.Proofs.Ytkknhcdjdcpfcaa
open Go.Sl Go.Iso
set_option linter.all false

theorem join0 {X Z : Prop} (h : Wrap Z → X) (z : Z) : X := h ⟨z⟩
/-- The document's heap. -/
structure RS where
  n : Nat
  K : List Int
  Lv : List Bool
  os : List RO
structure RW where
  bo : Nat
  p : Nat
  rs : List RX
  bk : Nat
  ck : Nat
  bc : Nat
  bl : Nat
  sp : List Value
  cs : List Int
abbrev rhL (h : Nat) (R : RS) (x : RW) : List SP := rh2 h x.bo x.p R.os.length x.rs ++ (rsA x.rs :: rp4 x.p x.bk x.ck x.bc x.bl R.n R.K x.sp x.cs R.Lv)
structure RWOk (R : RS) (x : RW) : Prop where
  os : x.rs.map (·.o) = R.os
  pool : RpOk R.n R.K x.cs R.Lv
  len : R.os.length ≤ 1000
def rheapA (h : Nat) (R : RS) : SP := fun k => ∃ x : RW, RWOk R x ∧ sep (rhL h R x) k
theorem st_rheap {β : Bs} {F : SP} {L M : List SP} {X : World → Prop} {h : Nat} {R : RS} (r : Rem (rheapA h R) L M) (k : ∀ x, RWOk R x → St β F (rhL h R x ++ M) X) : St β F L X :=
  st_ex r (fun h s => s) k
theorem st_toRheap {β : Bs} {F : SP} {L M : List SP} {X : World → Prop} {h : Nat} {R : RS} (x : RW) (ok : RWOk R x) (r : Rems (rhL h R x) L M) (k : St β F (rheapA h R :: M) X) : St β F L X :=
  st_fold r (fun k s => ⟨x, ok, s⟩) k
theorem RWOk.rl {R : RS} {x : RW} (h : RWOk R x) : x.rs.length = R.os.length := by rw [← h.os, List.length_map]
theorem encRs_same {l : List RX} {i : Nat} {x x' : RX} (hx : l[i]? = some x) (h : rV x' = rV x) : encRs (l.set i x') = encRs l := by
  have hi := (List.getElem?_eq_some_iff.1 hx).1
  rw [← encRs_set hi, h, encRs_set hi, set_self hx]
/-- A store: what it answers, and what it leaves. -/
def setR (os : List RO) (k s x : Int) : Int × List RO :=
  if slotE os k s = 0 then
    let o := os.getD k.toNat default
    if (if o.refs.getD s.toNat false = true then x ≠ 0 ∧ inR os x = false else x < -2147483648 ∨ x > 2147483647) then (1, os) else (0, os.set k.toNat { o with slots := o.slots.set s.toNat x })
  else (slotE os k s, os)
set_option maxHeartbeats 4000000 in
theorem r11Set {h : Nat} {R : RS} (hok : ∀ o ∈ R.os, o.kind ≠ 0 → ROOk o) (k s x : Int) :
    C Try.prog 23 [.pointer (some ⟨h, 0, none⟩), .int .i64 k, .int .i64 s, .int .i64 x] [rheapA h R] (fun v L' => v = .int .i64 (setR R.os k s x).1 ∧ L' = [rheapA h { R with os := (setR R.os k s x).2 }]) := by
  refine C_enter4 Try.func23 rfl rfl rfl fun β F => ?_
  refine st_rheap .here fun W ok => ?_
  have hl := ok.rl
  have hnn := ok.len
  have ho := ok.os
  refine go ?_
  refine call (r11Slot hl k s) ?_
  rintro _ _ ⟨rfl, rfl⟩
  rw [ho]
  by_cases hE : slotE R.os k s = 0
  · have hin : inR R.os k = true := by
      refine Classical.byContradiction fun hn => ?_
      rw [slotE, if_neg hn] at hE; cases hE
    have hin' := hin
    rw [← ho] at hin'
    obtain ⟨m, y, rfl, hm, hy, hg, hkind⟩ := inR_get hl hin'
    have hgd : R.os.getD m default = y.o := by rw [← ho, List.getD_eq_getElem?_getD, hg]; rfl
    have hy' : R.os[m]? = some y.o := by rw [← ho]; exact hg
    have hoo := hok y.o (List.mem_of_getElem? hy') hkind
    have hs : 0 ≤ s ∧ s < (y.o.slots.length : Int) := by
      refine Classical.byContradiction fun hn => ?_
      rw [slotE, if_pos hin, Int.toNat_natCast, hgd, if_neg hn] at hE; cases hE
    obtain ⟨j, rfl⟩ : ∃ j : Nat, s = (j : Int) := ⟨s.toNat, by omega⟩
    have hj : j < y.o.slots.length := by omega
    obtain ⟨o, rp, rc, sp2, sc, bp, bcc⟩ := y
    dsimp only at hgd hy' hoo hs hj hkind
    have at2 := encRs_get (j := 2) hy rfl
    have at3 := encRs_get (j := 3) hy rfl
    dsimp only [rV] at at2 at3
    have hlr := hoo.refs
    have h48 := hoo.len
    rw [hE]
    refine st_ro hy remA fun Q hQ => ?_
    refine st_own (T := 4) (sz := 1) (l := o.refs.map encBo) (s := .slice rp o.refs.length rc) remA (fun hs0 h0 => ?_) (fun bR NR cR spR hvR hlR hspR hcR => ?_)
    · have := congrArg List.length h0; rw [List.length_map, List.length_nil] at this; omega
    cases hvR
    refine st_own (T := 3) (sz := 1) (l := o.slots.map encI) (s := .slice sp2 o.slots.length sc) remA (fun hs h0 => ?_) (fun bs Ns cc sps hvs hls hsps hcs => ?_)
    · have := congrArg List.length h0; rw [List.length_map, List.length_nil] at this; omega
    cases hvs
    obtain ⟨b, hb⟩ : ∃ b, o.refs[j]? = some b := ⟨o.refs[j]'(by omega), by simp⟩
    have hgb : o.refs.getD j false = b := by rw [List.getD_eq_getElem?_getD, hb]; rfl
    have hback : ∀ k, sep [cel bR (o.refs.map encBo ++ spR) 4, cel bs (o.slots.map encI ++ sps) 3, ownS 3 1 (.slice bp o.blocks.length bcc) (o.blocks.map encN), Q] k → rsA W.rs k := fun k s => by
      have := hQ ⟨o, some ⟨bR, 0, none⟩, rc, some ⟨bs, 0, none⟩, sc, bp, bcc⟩ k (star_mono (fun h a => own_mk hlR hspR hcR h (star_true a)) (fun h s => star_mono (fun h a => own_mk hls hsps hcs h (star_true a)) (fun _ x => x) s) s)
      rwa [set_self hy] at this
    refine pickN (As := cel h [.slice (some ⟨W.bo, 0, none⟩) R.os.length R.os.length, .pointer (some ⟨W.p, 0, none⟩)] 69 :: cel W.bo (encRs W.rs) 73 :: cel bR (o.refs.map encBo ++ spR) 4 ::
      cel bs (o.slots.map encI ++ sps) 3 :: ownS 3 1 (.slice bp o.blocks.length bcc) (o.blocks.map encN) :: Q :: rp4 W.p W.bk W.ck W.bc W.bl R.n R.K W.sp W.cs R.Lv) ?_
    have eS : ∀ c : Prop, [Decidable c] → ((if b = true then x ≠ 0 ∧ inR R.os x = false else x < -2147483648 ∨ x > 2147483647) ↔ c) → setR R.os (m : Int) (j : Int) x = if c then (1, R.os) else (0, R.os.set m { o with slots := o.slots.set j x }) := by
      intro c _ hc
      rw [setR, if_pos hE]
      simp only [Int.toNat_natCast, hgd, hgb]
      by_cases hcc : c
      · rw [if_pos (hc.2 hcc), if_pos hcc]
      · rw [if_neg (fun h => hcc (hc.1 h)), if_neg hcc]
    apply join0
    · intro z
      by_cases hbt : b = true
      · have atR := map_at (f := encBo) (show o.refs[j]? = some true by rw [hb, hbt]) spR
        by_cases hx0 : x = 0
        · rw [eS False (by simp [hx0, hbt]), if_neg (fun h => h)]
          refine go ?_
          refine WO_keep [64, 63, 0, 1, 8] rfl ?_
          exact z.it
        · refine go ?_
          refine call (r11In hl x) ?_
          rintro _ _ ⟨rfl, rfl⟩
          rw [ho]
          by_cases hi : inR R.os x = true
          · rw [hi]
            rw [eS False (by simp [hi, hbt]), if_neg (fun h => h)]
            refine go ?_
            refine WO_keep [64, 63, 0, 1, 8] rfl ?_
            exact pickN z.it
          · have hi := Bool.eq_false_iff.2 hi
            rw [hi]
            rw [eS True (by simp [hi, hx0, hbt]), if_pos trivial]
            refine go ?_
            refine st_fold (A := rsA W.rs) (As := [cel bR (o.refs.map encBo ++ spR) 4, cel bs (o.slots.map encI ++ sps) 3, ownS 3 1 (.slice bp o.blocks.length bcc) (o.blocks.map encN), Q]) remsA hback ?_
            refine st_toRheap (R := R) W ok remsA ?_
            refine WT_ret (rs := [.tmp 8]) Try.func23 rfl rfl ⟨rfl, rfl⟩
      · have hbt := Bool.eq_false_iff.2 hbt
        have atR := map_at (f := encBo) (show o.refs[j]? = some false by rw [hb, hbt]) spR
        by_cases hx0 : x < -2147483648
        · rw [eS True (by simp [hx0, hbt]), if_pos trivial]
          refine go ?_
          refine st_fold (A := rsA W.rs) (As := [cel bR (o.refs.map encBo ++ spR) 4, cel bs (o.slots.map encI ++ sps) 3, ownS 3 1 (.slice bp o.blocks.length bcc) (o.blocks.map encN), Q]) remsA hback ?_
          refine st_toRheap (R := R) W ok remsA ?_
          refine WT_ret (rs := [.tmp 8]) Try.func23 rfl rfl ⟨rfl, rfl⟩
        · by_cases hx1 : x > 2147483647
          · rw [eS True (by simp [hx1, hbt]), if_pos trivial]
            refine go ?_
            refine st_fold (A := rsA W.rs) (As := [cel bR (o.refs.map encBo ++ spR) 4, cel bs (o.slots.map encI ++ sps) 3, ownS 3 1 (.slice bp o.blocks.length bcc) (o.blocks.map encN), Q]) remsA hback ?_
            refine st_toRheap (R := R) W ok remsA ?_
            refine WT_ret (rs := [.tmp 8]) Try.func23 rfl rfl ⟨rfl, rfl⟩
          · rw [eS False (by simp [hx0, hx1, hbt]), if_neg (fun h => h)]
            refine go ?_
            refine WO_keep [64, 63, 0, 1, 8] rfl ?_
            exact z.it
    · refine WO_storeS (b := bs) (off := 0 + j * 1) (l := o.slots.map encI ++ sps) (vs := [encI x]) rfl rfl rfl rfl (by simp [Value.oneCell']) (by rw [List.length_append, List.length_map]; simp; omega) (spl_one' hj) updA rfl rfl ?_
      refine go ?_
      have hx' : (W.rs.set m ⟨{ o with slots := o.slots.set j x }, some ⟨bR, 0, none⟩, rc, some ⟨bs, 0, none⟩, sc, bp, bcc⟩)[m]? = some ⟨{ o with slots := o.slots.set j x }, some ⟨bR, 0, none⟩, rc, some ⟨bs, 0, none⟩, sc, bp, bcc⟩ := by
        rw [List.getElem?_set_self (by rw [hl]; exact hm)]
      have ho' : ROOk { o with slots := o.slots.set j x } := ⟨hoo.pos, hoo.few, hoo.bnd, by show (o.slots.set j x).length ≤ 48; rw [List.length_set]; exact h48, by show o.refs.length = (o.slots.set j x).length; rw [List.length_set]; exact hlr, by
        show o.blocks.length > 1 → ∀ i, i < (o.slots.set j x).length → _
        rw [List.length_set]; exact hoo.many⟩
      have eR : encRs (W.rs.set m ⟨{ o with slots := o.slots.set j x }, some ⟨bR, 0, none⟩, rc, some ⟨bs, 0, none⟩, sc, bp, bcc⟩) = encRs W.rs := encRs_same hy (by simp [rV])
      have eL : (R.os.set m { o with slots := o.slots.set j x }).length = R.os.length := List.length_set
      rw [← eR]
      refine st_fold (A := rsA (W.rs.set m ⟨{ o with slots := o.slots.set j x }, some ⟨bR, 0, none⟩, rc, some ⟨bs, 0, none⟩, sc, bp, bcc⟩)) (As := [cel bR (o.refs.map encBo ++ spR) 4, cel bs ((o.slots.set j x).map encI ++ sps) 3, ownS 3 1 (.slice bp o.blocks.length bcc) (o.blocks.map encN), Q]) remsA (fun k s =>
        hQ ⟨{ o with slots := o.slots.set j x }, some ⟨bR, 0, none⟩, rc, some ⟨bs, 0, none⟩, sc, bp, bcc⟩ k (star_mono (fun h a => own_mk hlR hspR hcR h (star_true a)) (fun h s => star_mono (fun h a => own_mk (by simp) (by rw [List.length_set]; exact hsps) (by rw [List.length_set]; exact hcs) h (star_true a)) (fun _ x => x) s) s)) ?_
      refine call (r11Lay (h := h) (bo := W.bo) (p := W.p) (nn := R.os.length) (bk := W.bk) (ck := W.ck) (bc := W.bc) (bl := W.bl) (sp := W.sp) ok.pool hx' hm hnn ho') ?_
      rintro _ _ ⟨cs', rfl, ok', rfl⟩
      rw [← eL]
      refine st_toRheap (R := { R with os := R.os.set m { o with slots := o.slots.set j x } }) { W with rs := W.rs.set m ⟨{ o with slots := o.slots.set j x }, some ⟨bR, 0, none⟩, rc, some ⟨bs, 0, none⟩, sc, bp, bcc⟩, cs := cs' } ⟨by
        show (W.rs.set m _).map (·.o) = R.os.set m _
        rw [List.map_set, ho], ok', by show (R.os.set m _).length ≤ 1000; rw [List.length_set]; exact hnn⟩ remsA ?_
      refine go ?_
      refine WT_ret (rs := [.tmp 8]) Try.func23 rfl rfl ⟨rfl, rfl⟩
  · have eS : setR R.os k s x = (slotE R.os k s, R.os) := by rw [setR, if_neg hE]
    rw [eS]
    refine go ?_
    refine st_toRheap (R := R) W ok remsA ?_
    refine WT_ret (rs := [.tmp 8]) Try.func23 rfl rfl ⟨rfl, rfl⟩
end Go.Proofs.Ytkknhcdjdcpfcaa
