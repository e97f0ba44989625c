/- isochronlaw13.RefsKeeps returns true for every input, and the input reads behind the call as it read before. -/
import Derived.Test.YtkknhcdjdcpfcaaRows
import Derived.Test.YtkknhcdjdcpfcaaWKeeps
import Derived.ChangeSame
import Derived.JoinedOf
import Derived.JoinedAt
import Derived.ProofKit
import Derived.OpenShut
import Derived.Lib.SmallJoins
import Derived.Deep.Slices
import Derived.WideKeyArgs
namespace Go.Proofs.Ytkknhcdjdcpfcaa
open Go.Sl Go.Iso Go.ChangeShapes Go.WideShapes Go.ChangeAt Go.RowKit Go.Deep
set_option linter.all false

theorem rowOwn : ownKnob Try.prog.godebug = none := by kernel_rfl
theorem rowLaid : laidOutB Try.prog = true := by kernel_rfl
theorem cellsArg : Try.prog.cellsOf 25 = 2 := by kernel_rfl
theorem cells22 : Try.prog.cellsOf 22 = 1 := by kernel_rfl
theorem cells23 : Try.prog.cellsOf 23 = 1 := by kernel_rfl
theorem cells42 : Try.prog.cellsOf 42 = 2 := by kernel_rfl
theorem cells3 : Try.prog.cellsOf 3 = 1 := by kernel_rfl

section
variable {H : Type} {enc : TypeId × Value → H} {W : World}
theorem block_of_cell {b off : Nat} {v : Value} (h : W.cell? ⟨b, off, none⟩ = some v) : ∃ (ls : List Value) (T : TypeId) (fr : Nat × Nat), W.heap[b]? = some (.cells ls.toArray T fr) := by
  unfold World.cell? at h
  dsimp only at h
  split at h
  · rename_i c T fr hc
    exact ⟨c.toList, T, fr, hc⟩
  · cases h
theorem cell_in {b off : Nat} {v : Value} {ls : List Value} {T : TypeId} {fr : Nat × Nat} (hb : W.heap[b]? = some (.cells ls.toArray T fr)) (h : W.cell? ⟨b, off, none⟩ = some v) : ls[off]? = some v := by
  unfold World.cell? at h
  dsimp only at h
  rw [hb] at h
  simpa using h

/-- The pairs of a slice of pairs. -/
def pairOf (W : World) (a : Option Addr) (i k : Nat) : Int := match a with
  | some ⟨b, off, _⟩ => (match W.cell? ⟨b, off + i * 2 + k * 1, none⟩ with | some (.int _ z) => z | _ => 0)
  | none => 0
theorem open_pairs {fuel n c : Nat} {a : Option Addr} {x : DataW H × List MemPlace} (h : DataW.trod enc Try.prog W 0 (fun _ => true) true fuel 22 [.slice a n c] = some x) :
    0 < n → ∃ (b off : Nat) (ls : List Value) (T : TypeId) (fr : Nat × Nat), a = some ⟨b, off, none⟩ ∧ W.heap[b]? = some (.cells ls.toArray T fr) ∧ ∀ i k, i < n → k < 2 → ls[off + i * 2 + k * 1]? = some (encI (pairOf W a i k)) := by
  intro hn
  rcases open_slice Try.underlying22 h with ⟨hcs, _⟩ | ⟨ad, len, cap, m, nn, D, Pl, hcs, _, hlc, _, hm, hx, hel⟩
  · simp only [List.cons.injEq, Value.slice.injEq, and_true] at hcs
    omega
  · simp only [List.cons.injEq, Value.slice.injEq, and_true] at hcs
    obtain ⟨rfl, rfl, rfl⟩ := hcs
    simp only [if_true] at hm
    subst hm
    have each : ∀ i k, i < n → k < 2 → ∃ z, W.cell? ((ad.add (i * 2)).add k) = some (.int .i64 z) := by
      intro i k hi hk
      obtain ⟨cs', h1, h2⟩ := hel i (by omega)
      rw [cells42] at h1
      obtain ⟨_, hl, hc⟩ := World.cells?_some h1
      obtain ⟨xs, mm, _, _, _, hxl, hE⟩ := DataW.trod_array Try.underlying42 h2
      have hk' := hE k hk
      rw [cells3, Nat.mul_one, List.getElem?_eq_getElem (by omega)] at hk'
      obtain ⟨z, e1, _, _⟩ := DataW.trod_int Try.underlying3 hk'
      refine ⟨z, ?_⟩
      rw [hc k hk]
      have h0 : ((cs'.drop k).take 1)[0]? = some (.int .i64 z) := by rw [e1]; rfl
      simpa using h0
    obtain ⟨b, off, sp⟩ := ad
    obtain ⟨z0, hz0⟩ := each 0 0 hn (by omega)
    have hsp : sp = none := by simpa [Addr.add] using World.cell?_spot hz0
    subst hsp
    have each' : ∀ i k, i < n → k < 2 → ∃ z, W.cell? ⟨b, off + i * 2 + k * 1, none⟩ = some (.int .i64 z) := fun i k hi hk => by
      obtain ⟨z, hz⟩ := each i k hi hk
      exact ⟨z, by rw [add_plain, add_plain] at hz; rwa [Nat.mul_one]⟩
    obtain ⟨_, hz1⟩ := each' 0 0 hn (by omega)
    obtain ⟨ls, T, fr, hb⟩ := block_of_cell hz1
    refine ⟨b, off, ls, T, fr, rfl, hb, fun i k hi hk => ?_⟩
    obtain ⟨z, hz⟩ := each' i k hi hk
    have e : pairOf W (some ⟨b, off, none⟩) i k = z := by unfold pairOf; simp only [hz]
    rw [e]
    exact cell_in hb hz

set_option maxRecDepth 100000 in
theorem okRoots {p q : Value} {base : Nat} (h : Value.okWide Try.prog W .any base 25 (.agg #[p, q])) : Cell.okWide Try.prog W .any base 23 q := by
  simp only [Value.okWide, Try.underlying25] at h
  obtain ⟨cs, e, _, ts, ht, _, hc⟩ := h
  cases e
  obtain rfl : ts = [22, 23] := by
    have : Try.prog.cellTypes Try.prog.depth 25 = some [22, 23] := by kernel_rfl
    rw [this] at ht
    exact (Option.some.inj ht).symm
  obtain ⟨u, hu, ho⟩ := hc 1 q rfl
  cases hu
  exact ho

theorem open_roots {base fuel n c : Nat} {a : Option Addr} {x : DataW H × List MemPlace} (hv : Cell.okWide Try.prog W .any base 23 (.slice a n c)) (h : DataW.trod enc Try.prog W 0 (fun _ => true) true fuel 23 [.slice a n c] = some x) :
    n ≤ c ∧ ∃ (ir : Src) (roots : List Int), roots.length = n ∧ SrcV ir n (.slice a n c) (roots.map encI) ∧ ∀ b ob, ir = some (b, ob) → W.heap[b]? = some ob := by
  rcases open_ints Try.underlying23 Try.underlying3 cells3 h with ⟨hcs, _⟩ | ⟨ad, len, cap, zs, hcs, _, hlc, _, hz, _, hcell, _⟩
  · simp only [List.cons.injEq, Value.slice.injEq, and_true] at hcs
    obtain ⟨rfl, rfl, rfl⟩ := hcs
    exact ⟨Nat.le_refl _, none, [], rfl, .inl ⟨0, rfl, rfl, rfl, rfl⟩, fun b ob e => by cases e⟩
  · simp only [List.cons.injEq, Value.slice.injEq, and_true] at hcs
    obtain ⟨rfl, rfl, rfl⟩ := hcs
    simp only [if_true] at hz
    simp only [Cell.okWide, Try.underlying23, Cell.ok] at hv
    obtain ⟨_, _, _, hsp, row, cells, hsh, _⟩ := hv
    obtain ⟨b, off, sp⟩ := ad
    dsimp only at hsp hsh
    subst hsp
    obtain ⟨ls, T, fr, hb⟩ : ∃ (ls : List Value) (T : TypeId) (fr : Nat × Nat), W.heap[b]? = some (.cells ls.toArray T fr) := by
      unfold World.shape? at hsh
      split at hsh
      · rename_i c' T fr hc
        exact ⟨c'.toList, T, fr, hc⟩
      · cases hsh
    have hl : (zs.take n).length = n := by rw [List.length_take]; omega
    refine ⟨hlc, some (b, .cells ls.toArray T fr), zs.take n, hl, .inr ⟨b, off, c, ls, T, fr, rfl, rfl, ?_⟩, fun b' ob e => by cases e; exact hb⟩
    rw [List.length_map, hl]
    apply List.ext_getElem?
    intro i
    rw [List.getElem?_take]
    split
    · rename_i hi
      have hc := hcell i (by omega)
      have hc' : W.cell? ⟨b, off + i, none⟩ = some (.int .i64 (zs.getD i 0)) := by rwa [add_plain] at hc
      rw [List.getElem?_drop, cell_in hb hc', List.getElem?_map, List.getElem?_take, if_pos hi]
      have : zs[i]? = some (zs.getD i 0) := by rw [List.getD, List.getElem?_eq_getElem (by omega)]; rfl
      rw [this]; rfl
    · rename_i hi
      rw [List.getElem?_map, List.getElem?_take, if_neg hi]; rfl

/-- All that the memory holds at the call. -/
def worldF (W : World) : SP := fun h => ∀ b o, W.heap[b]? = some o → h b = some o
theorem worldF_up : Up (worldF W) := fun h k hk hf b o hb => hk b o (hf b o hb)
theorem worldF_has {b : Nat} {ob : Obj} (hb : W.heap[b]? = some ob) : Has (worldF W) b ob := by
  refine ⟨fun h => ∀ b' o, b' ≠ b → W.heap[b']? = some o → h b' = some o, fun h => ⟨fun hf => ?_, fun ⟨h1, h2, d, e, x, y⟩ b' o hb' => ?_⟩⟩
  · refine ⟨fun q => if q = b then some ob else none, fun q => if q = b then none else h q, fun q => ?_, ?_, ?_, ?_⟩
    · by_cases hq : q = b
      · exact .inr (if_pos hq)
      · exact .inl (if_neg hq)
    · funext q
      simp only [un]
      by_cases hq : q = b
      · rw [if_pos hq, hq, hf b ob hb]
      · rw [if_neg hq, if_neg hq]
    · show (if b = b then some ob else none) = some ob
      rw [if_pos rfl]
    · intro b' o hne hb'
      show (if b' = b then none else h b') = some o
      rw [if_neg hne]
      exact hf b' o hb'
  · by_cases hq : b' = b
    · subst hq
      rw [hb] at hb'
      cases hb'
      rw [e, un, x]
    · have h2' := y b' o hq hb'
      rw [e, un_comm d, un, h2']

theorem keptBut_old {W W' : World} {may : MemPlace → Prop} (hos : W'.os = W.os) (hout : W'.output = W.output) (h : ∀ (b : Nat) (o : Obj), W.heap[b]? = some o → W'.heap[b]? = some o) : W.keptBut W' may := by
  refine ⟨hos, hout, fun i hi => ?_⟩
  obtain ⟨o, ho⟩ : ∃ o, W.heap[i]? = some o := ⟨W.heap[i], by simp [hi]⟩
  rw [ho, h i o ho]
  cases o with
  | cells c t fr => exact ⟨rfl, rfl, rfl, fun _ _ => rfl⟩
  | map es clock => exact .inr ⟨rfl, rfl⟩
  | _ => rfl
theorem sameAt_old {W W' : World} (h : ∀ (b : Nat) (o : Obj), W.heap[b]? = some o → W'.heap[b]? = some o) {p : MemPlace} (hp : p.block < W.heap.size) : W.sameAt W' p := by
  obtain ⟨o, ho⟩ : ∃ o, W.heap[p.block]? = some o := ⟨W.heap[p.block], by simp [hp]⟩
  have h' := h _ _ ho
  cases p with
  | cell b off =>
    show W'.cell? ⟨b, off, none⟩ = W.cell? ⟨b, off, none⟩
    unfold World.cell?
    dsimp only [MemPlace.block] at ho h' ⊢
    rw [ho, h']
  | map b =>
    show W'.heap[b]? = W.heap[b]?
    dsimp only [MemPlace.block] at ho h'
    rw [ho, h']
end

set_option maxHeartbeats 1600000 in
set_option maxRecDepth 100000 in
theorem lifted (os : Os) (started : os.Started) (H : Type) (enc : TypeId × Value → H) :
    ReturnsInHanded Rows.refsKeepsRow.assume Try.checked os 3 .any (Rows.refsKeepsSpec.pre6 enc Try.prog Try.f3 Rows.refsKeepsRow.domain false) (Rows.refsKeepsSpec.post enc Try.prog Try.f3 false true false false) := by
  refine returnsInHanded_of_change (C := Try.checked) rowOwn started (by kernel_rfl) Try.func3
    (ChangeSpec.witness6 (enc := enc) (C := Try.checked) false ⟨#[], #[.agg #[.slice none 0 0, .slice none 0 0], .slice none 0 0], []⟩ 8 (by kernel_rfl) (by kernel_rfl) (by kernel_rfl) (by kernel_rfl)) ?_
  intro W base args ds gs before hval0 hW hcnd _
  have hval : ∀ (j : Nat) t v, Try.f3.params[j]? = some t → args[j]? = some v → Value.okWide Try.prog W .any base t v := hval0
  have hW' := hW
  obtain ⟨p, q, hA0, hV, rfl, hfz, hnd⟩ := hW
  have hA : DataW.TrodAll enc Try.prog W 0 (fun _ => true) true Try.f3.params.toList args.toList ds p := hA0
  rw [Try.params3] at hA hval
  obtain ⟨v0, v1, d0, d1, p0, p1, rfl, rfl, rfl, h0, h1⟩ := trodAll_two hA
  obtain ⟨rfl, rfl⟩ := trodVars_none hV
  have h0k := h0
  have h1k := h1
  have hv0 := hval 0 25 v0 rfl rfl
  obtain ⟨vl, vr, y0, y1, m, rfl, rfl, rfl, hl0, hr0⟩ := Go.Joins.open_agg2 Try.underlying25 (by kernel_rfl) cellsArg hv0 h0
  have hor := okRoots hv0
  obtain ⟨pe, ne, ce, rfl⟩ := okWide_slice Try.underlying22 (hval 1 22 v1 rfl rfl)
  obtain ⟨pr, nr, cr, rfl⟩ : ∃ a n c, vr = .slice a n c := by
    have := hor
    simp only [Cell.okWide, Try.underlying23] at this
    cases vr <;> simp_all [Cell.ok]
  obtain ⟨pl, nl, cl, rfl⟩ : ∃ a n c, vl = .slice a n c := by
    rcases open_slice Try.underlying22 hl0 with ⟨hcs, _⟩ | ⟨ad, len, cap, _, _, _, _, hcs, _⟩
    · exact ⟨_, _, _, (List.cons.inj hcs).1⟩
    · exact ⟨_, _, _, (List.cons.inj hcs).1⟩
  obtain ⟨f1, hf1⟩ := h1
  have hL := open_pairs hl0
  have hE := open_pairs hf1
  obtain ⟨hcap, ir, roots, hlen, hsv, hib⟩ := open_roots hor hr0
  clear hA0 hval0
  simp only [List.append_nil] at hW'
  have hlt : ∀ x ∈ (y0.2 ++ y1.2) ++ p1, x.block < W.heap.size := fun x hx => by simpa using hW'.lt x hx
  have hwalk := lawKeeps (pl := pl) (nl := nl) (cl := cl) (lk := pairOf W pl) (pe := pe) (ne := ne) (ce := ce) (en := pairOf W pe) hlen hcap hsv ⟨W.heap.size, W.os, W.tape, W.output⟩ (worldF W) W
    ⟨⟨worldF_up, fun hn => by obtain ⟨b, off, ls, T, fr, e1, e2, e3⟩ := hL hn; exact ⟨b, off, ls, T, fr, e1, worldF_has e2, e3⟩, fun b ob e => worldF_has (hib b ob e)⟩,
      fun hn => by obtain ⟨b, off, ls, T, fr, e1, e2, e3⟩ := hE hn; exact ⟨b, off, ls, T, fr, e1, worldF_has e2, e3⟩⟩
    ⟨rfl, rfl, rfl, Nat.le_refl _, fun b c e fr hb hc => by
      have : b < W.heap.size := by
        rcases Nat.lt_or_ge b W.heap.size with h | h
        · exact h
        · rw [Array.getElem?_eq_none h] at hc; cases hc
      exact absurd this (Nat.not_lt.2 hb), star_true fun b o h => h⟩
  refine Calls.mono hwalk fun e W' ⟨v, L', he, hv, hok⟩ => ⟨v, he, ?_⟩
  subst hv
  have hold : ∀ (b : Nat) (o : Obj), W.heap[b]? = some o → W'.heap[b]? = some o := fun b o hb => by
    obtain ⟨g1, g2, d, e, x, _⟩ := hok.heap
    have : hp W' b = some o := by rw [e, un, x b o hb]
    exact this
  have ARG0 : DataW.Trod enc Try.prog W' 0 (fun x => decide (x < W.heap.size)) true 25 (.agg #[.slice pl nl cl, .slice pr nr cr]) (.agg [y0.1, y1.1]) (y0.2 ++ y1.2) :=
    WideElems.Trod_stays rowLaid (by kernel_rfl) (of_decide_eq_true (by kernel_rfl)) h0k (fun x hx => sameAt_old hold (hlt x (List.mem_append_left _ hx))) (fun x hx => by simpa using hlt x (List.mem_append_left _ hx))
  have ARG1 : DataW.Trod enc Try.prog W' 0 (fun x => decide (x < W.heap.size)) true 22 (.slice pe ne ce) d1 p1 :=
    WideElems.Trod_stays rowLaid (by kernel_rfl) (of_decide_eq_true (by kernel_rfl)) h1k (fun x hx => sameAt_old hold (hlt x (List.mem_append_right _ hx))) (fun x hx => by simpa using hlt x (List.mem_append_right _ hx))
  have RES : DataW.Trod enc Try.prog W' W.heap.size (fun _ => false) false 4 (.bool true) (.lit (.bool true)) [] := ⟨1, by simp [DataW.trod, Try.underlying4, Value.cells]⟩
  exact ⟨_, _, _, [], _, [], hW', trodAll_mk1 RES, trodAll_mk2 ARG0 ARG1, rfl, keptBut_old hok.os hok.output hold, fun h => by cases h⟩

theorem refsKeeps_holds : Rows.RefsKeepsSaid :=
  OpenClaim.holds_of_wide 3 Try.f3 rfl rfl rfl rfl rfl rfl rfl ⟨rfl, rfl, rfl, rfl, rfl⟩ rfl rfl rfl rfl rfl (by kernel_rfl) Try.func3 (by kernel_rfl)
    (of_decide_eq_true (by kernel_rfl)) (by unfold Func.isWrapper; rw [if_neg (of_decide_eq_false (by kernel_rfl))]; exact ⟨rfl, rfl⟩)
    (fun os started H enc _ => lifted os started H enc)
#print axioms refsKeeps_holds
end Go.Proofs.Ytkknhcdjdcpfcaa
