/- Walks of package isochronlaw13: mark. -/
import Derived.Test.YtkknhcdjdcpfcaaInst
import Derived.Test.YtkknhcdjdcpfcaaWR11g
import Derived.Test.YtkknhcdjdcpfcaaWRefs5
import Derived.Test.YtkknhcdjdcpfcaaXSm
namespace Go.Proofs.Ytkknhcdjdcpfcaa
open Go.Sl Go.Iso
set_option linter.all false

/-- The roots that are used. -/
def lroots (os : List RO) (roots : List Int) : List Int := if badRR os (roots.take 20) = true then [] else roots.take 20
abbrev bothA (b : Nat) (h r : Nat) (m n : Option Addr) (t u : Nat) : SP := cel b [.pointer (some ⟨h, 0, none⟩), .pointer (some ⟨r, 0, none⟩), .pointer m, .pointer n, .pointer (some ⟨t, 0, none⟩), .pointer (some ⟨u, 0, none⟩)] 38
theorem badR_eq {H : HS} {os : List RO} (hag : ∀ k, usedB H k = inR os k) (xs : List Int) : badR H xs = badRR os xs := by
  unfold badR badRR
  congr 1
  funext k
  rw [hag]
theorem st_inP {β : Bs} {F : SP} {L M : List SP} {X : World → Prop} {ib : Src} {m c : Nat} {p : Option Addr} {l : List Value} (r : Rem (inA ib m (.slice p m c) l) L M) (k : (0 < m → ∃ b off, p = some ⟨b, off, none⟩) → St β F L X) : St β F L X := by
  intro w h
  have h3 : sep (inA ib m (.slice p m c) l :: F :: M) (hp w) := star_left (h.perm r.perm).heap
  obtain ⟨g1, g2, d, e, hh, y⟩ := h3
  rcases hh with ⟨c', q0, q1, q2, q3⟩ | ⟨b, off, c', ls, T, fr, q0, q1, q2, q3⟩
  · exact k (fun h => absurd h (by omega)) w h
  · cases q1
    exact k (fun _ => ⟨b, off, rfl⟩) w h
/-- A slice is cut, and given back whole. -/
theorem st_inCut {β : Bs} {F : SP} {L M : List SP} {X : World → Prop} {ib : Src} {m c m' j : Nat} {p : Option Addr} {l : List Value} (r : Rem (inA ib m (.slice p m c) l) L M) (hm : m' ≤ m) (hl : l.length = m)
    (k : (∀ {β : Bs} {F : SP} {L M : List SP} {X : World → Prop}, Rem (inA ib m' (.slice p m' c) (l.take j)) L M → St β F (inA ib m (.slice p m c) l :: M) X → St β F L X) → St β F (inA ib m' (.slice p m' c) (l.take j) :: M) X) : St β F L X := by
  refine st_in r (fun c' q0 q1 q2 q3 => ?_) (fun b off c' ls T fr q0 q1 q3 => ?_)
  · cases q1
    subst q0 q3
    have hm0 : m' = 0 := by omega
    subst hm0
    refine st_fold (A := inA none 0 (.slice none 0 c) (([] : List Value).take j)) (As := []) .nil (fun h _ => by rw [List.take_nil]; exact in_nil h) ?_
    exact k fun r k' => by rw [List.take_nil] at r; exact st_perm r.perm k'
  · cases q1
    subst q0
    have q3' : (ls.drop off).take (l.take j).length = l.take j := by
      rw [List.length_take]
      conv => rhs; rw [← q3, List.take_take]
    refine st_fold (A := inA (some (b, .cells ls.toArray T fr)) m' (.slice (some ⟨b, off, none⟩) m' c) (l.take j)) (As := [blk b (.cells ls.toArray T fr)]) (.cons .here .nil) (in_mk q3') ?_
    refine k fun r k' => ?_
    refine st_in r (fun c' q0 => by cases q0) (fun b2 off2 c2 ls2 T2 fr2 q0 q1 q4 => ?_)
    cases q1
    simp only [Option.some.injEq, Prod.mk.injEq, Obj.cells.injEq] at q0
    obtain ⟨_, e1, rfl, rfl⟩ := q0
    have e2 : ls = ls2 := by simpa using e1
    subst e2
    exact st_fold (A := inA (some (b, .cells ls.toArray T fr)) m (.slice (some ⟨b, off, none⟩) m c) l) (As := [blk b (.cells ls.toArray T fr)]) (.cons .here .nil) (in_mk q3) k'
set_option maxHeartbeats 4000000 in
theorem lawMark {ib : Src} {b h r nr cv t u : Nat} {m0 n0 pv : Option Addr} {H : HS} {R : RS} {roots : List Int} (hok : ∀ o ∈ R.os, o.kind ≠ 0 → ROOk o) (hcl : RClosed R.os) (hag : ∀ k, usedB H k = inR R.os k) (hlen : roots.length = nr) (hcap : nr ≤ cv) :
    C Try.prog 24 [.pointer (some ⟨b, 0, none⟩), .slice pv nr cv] [bothA b h r m0 n0 t u, heapA h H, rheapA r R, inA ib nr (.slice pv nr cv) (roots.map encI)]
      (fun v' L' => ∃ m n, v' = .bool true ∧ L' = [bothA b h r (some ⟨m, 0, none⟩) n t u, markA m h ((lroots R.os roots).foldl (shadeP H) (fun _ => none, [])).1 ((lroots R.os roots).foldl (shadeP H) (fun _ => none, [])).2, heapA h H, rheapA r R, inA ib nr (.slice pv nr cv) (roots.map encI)]) := by
  obtain ⟨n', hn'⟩ : ∃ n', n' = min nr 20 := ⟨_, rfl⟩
  have hl' : (roots.take 20).length = n' := by rw [List.length_take, hlen, hn', Nat.min_comm]
  have hn20 : n' ≤ 20 := by omega
  refine C_enter2 Try.func24 rfl rfl rfl fun β F => ?_
  refine st_inP remA fun hpv => ?_
  apply join0
  · intro z
    by_cases h20 : (20 : Int) < (nr : Int)
    · obtain ⟨bb, off, hp⟩ := hpv (by omega)
      refine go ?_
      refine WO_q (q_sliceS (l := 0) (h := 20) (off' := off) (b := bb) (off := off) rfl (by rw [hp]; rfl) rfl rfl (by omega) (by omega) (by split <;> omega)) rfl rfl rfl ?_
      rw [← hp]
      refine go ?_
      refine WO_keep (E' := [(21, .slice pv n' cv), (20, .pointer (some ⟨r, 0, none⟩)), (5, .slice pv n' cv), (0, .pointer (some ⟨b, 0, none⟩))]) [21, 20, 5, 0] ?_ ?_
      · rw [show n' = 20 by omega]; rfl
      exact z.it
    · refine go ?_
      refine WO_keep (E' := [(21, .slice pv n' cv), (20, .pointer (some ⟨r, 0, none⟩)), (5, .slice pv n' cv), (0, .pointer (some ⟨b, 0, none⟩))]) [21, 20, 5, 0] ?_ ?_
      · rw [show n' = nr by omega]; rfl
      exact z.it
  · refine st_inCut (m' := n') (j := 20) remA (by omega) (by rw [List.length_map]; exact hlen) fun hback => ?_
    rw [← List.map_take]
    refine call (r11Reach (h := r) (R := R) (ib := ib) (nr := n') (v := .slice pv n' cv) (roots := roots.take 20) hok hcl hl' (by omega)) ?_
    intro v' L' hR
    by_cases hbad : badRR R.os (roots.take 20) = true
    · rw [if_pos hbad] at hR
      obtain ⟨rfl, rfl⟩ := hR
      have hlr : lroots R.os roots = [] := by rw [lroots, if_pos hbad]
      rw [hlr]
      have hb0 : ¬ badR H [] = true := by simp [badR]
      have hb1 : ¬ badRR R.os [] = true := by simp [badRR]
      refine go ?_
      refine st_fold (A := inA none 0 (.slice none 0 0) (([] : List Int).map encI)) (As := []) .nil (fun h _ => in_nil h) ?_
      refine call (markBegin (h := h) (n := 0) (H := H) (v := .slice none 0 0) (xs := []) (ib := none) rfl (by omega)) ?_
      intro v' L' hR
      rw [if_neg hb0] at hR
      obtain ⟨m, rfl, rfl⟩ := hR
      refine go ?_
      refine WO_store rfl rfl rfl rfl rfl updA (.succ (.succ .zero)) rfl rfl ?_
      refine go ?_
      refine call (r12Begin (h := r) (R := R) (nr := 0) (v := .slice none 0 0) (roots := []) (ib := none) hcl.len rfl (by omega)) ?_
      rintro v' L' ⟨hR, rfl⟩
      rw [if_neg hb1] at hR
      obtain ⟨mn, rfl⟩ := hR
      refine go ?_
      refine WO_store rfl rfl rfl rfl rfl updA (.succ (.succ (.succ .zero))) rfl rfl ?_
      refine go ?_
      rw [List.map_take]
      refine hback remA ?_
      refine pickN (As := [bothA b h r (some ⟨m, 0, none⟩) (some ⟨mn, 0, none⟩) t u, markA m h (([] : List Int).foldl (shadeP H) (fun _ => none, [])).1 (([] : List Int).foldl (shadeP H) (fun _ => none, [])).2, heapA h H, rheapA r R, inA ib nr (.slice pv nr cv) (roots.map encI)]) ?_
      refine WT_ret (rs := [.tmp 4]) Try.func24 rfl rfl ⟨m, some ⟨mn, 0, none⟩, rfl, rfl⟩
    · rw [if_neg hbad] at hR
      obtain ⟨s, out, rfl, hout, hol, rfl⟩ := hR
      have hlr : lroots R.os roots = roots.take 20 := by rw [lroots, if_neg hbad]
      rw [hlr]
      have hb0 : ¬ badR H (roots.take 20) = true := by rw [badR_eq hag]; exact hbad
      refine st_ownV (T := 3) (sz := 1) (s := s) (l := out.map encI) remA fun ps ns cs hs => ?_
      subst hs
      refine go ?_
      refine call (markBegin (h := h) (n := n') (H := H) (v := .slice pv n' cv) (xs := roots.take 20) (ib := ib) hl' (by omega)) ?_
      intro v' L' hR
      rw [if_neg hb0] at hR
      obtain ⟨m, rfl, rfl⟩ := hR
      refine go ?_
      refine WO_store rfl rfl rfl rfl rfl updA (.succ (.succ .zero)) rfl rfl ?_
      refine go ?_
      refine call (r12Begin (h := r) (R := R) (nr := n') (v := .slice pv n' cv) (roots := roots.take 20) (ib := ib) hcl.len hl' (by omega)) ?_
      rintro v' L' ⟨hR, rfl⟩
      rw [if_neg hbad] at hR
      obtain ⟨mn, rfl⟩ := hR
      refine go ?_
      refine WO_store rfl rfl rfl rfl rfl updA (.succ (.succ (.succ .zero))) rfl rfl ?_
      refine go ?_
      rw [List.map_take]
      refine hback remA ?_
      refine pickN (As := [bothA b h r (some ⟨m, 0, none⟩) (some ⟨mn, 0, none⟩) t u, markA m h ((roots.take 20).foldl (shadeP H) (fun _ => none, [])).1 ((roots.take 20).foldl (shadeP H) (fun _ => none, [])).2, heapA h H, rheapA r R, inA ib nr (.slice pv nr cv) (roots.map encI)]) ?_
      refine WT_ret (rs := [.tmp 4]) Try.func24 rfl rfl ⟨m, some ⟨mn, 0, none⟩, rfl, rfl⟩
end Go.Proofs.Ytkknhcdjdcpfcaa
