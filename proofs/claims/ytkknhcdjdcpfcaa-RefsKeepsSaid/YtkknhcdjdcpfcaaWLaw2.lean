/- Walks of package isochronlaw13: begin. -/
import Derived.Test.YtkknhcdjdcpfcaaInst
import Derived.Test.YtkknhcdjdcpfcaaXPh
namespace Go.Proofs.Ytkknhcdjdcpfcaa
open Go.Sl Go.Iso
set_option linter.all false

def Up (F : SP) : Prop := ∀ h k, le h k → F h → F k
theorem Up.star {F G : SP} (h : Up F) : Up (star F G) := by
  intro x y hxy ⟨h1, h2, d, e, a, b⟩
  refine ⟨fun q => match h2 q with | some _ => none | none => y q, h2, fun q => ?_, ?_, h _ _ (fun q o hq => ?_) a, b⟩
  · cases hq : h2 q with
    | none => exact .inr rfl
    | some o => exact .inl (by simp only [hq])
  · funext q
    simp only [un]
    cases hq : h2 q with
    | none => simp; cases y q <;> rfl
    | some o => simp; exact hxy q o (by rw [e, un_comm d]; simp [un, hq])
  · rcases d q with h0 | h0
    · rw [h0] at hq; cases hq
    · simp only [h0]; exact hxy q o (by rw [e]; simp [un, hq])
/-- What is known of a slice, without memory. -/
def SrcV (ib : Src) (m : Nat) (v : Value) (l : List Value) : Prop := (∃ c, ib = none ∧ v = .slice none 0 c ∧ m = 0 ∧ l = []) ∨
  ∃ (b off c : Nat) (ls : List Value) (T : TypeId) (fr : Nat × Nat), ib = some (b, .cells ls.toArray T fr) ∧ v = .slice (some ⟨b, off, none⟩) m c ∧ (ls.drop off).take l.length = l
def HasS (F : SP) (ib : Src) : Prop := ∀ b ob, ib = some (b, ob) → Has F b ob
theorem HasS.star {F G : SP} {ib : Src} (h : HasS F ib) : HasS (star F G) ib := fun b ob e => (h b ob e).star
theorem lendIn {F : SP} {ib : Src} {m : Nat} {v : Value} {l : List Value} (hu : Up F) (hv : SrcV ib m v l) (hF : HasS F ib) : ∃ F', (∀ k, F k → star (inA ib m v l) F' k) ∧ (∀ k, star (inA ib m v l) F' k → F k) := by
  rcases hv with ⟨c, rfl, rfl, rfl, rfl⟩ | ⟨b, off, c, ls, T, fr, rfl, rfl, hl⟩
  · refine ⟨F, fun k hk => ⟨Sl.nil, k, fun _ => .inl rfl, by funext q; rfl, in_nil _, hk⟩, fun k ⟨h1, h2, d, e, _, hf⟩ => hu h2 k (fun q o hq => ?_) hf⟩
    rw [e, un_comm d]; simp [un, hq]
  · obtain ⟨F', h⟩ := hF _ _ rfl
    refine ⟨F', fun k hk => star_mono (fun h1 s => in_mk hl h1 (star_true s)) (fun _ x => x) ((h k).1 hk), fun k hk => (h k).2 (star_mono (fun h1 s => ?_) (fun _ x => x) hk)⟩
    rcases s with ⟨c', q0, _⟩ | ⟨b', off', c', ls', T', fr', q0, q1, q2, q3⟩
    · cases q0
    · simp only [Option.some.injEq, Prod.mk.injEq] at q0
      obtain ⟨rfl, q0⟩ := q0
      show h1 b = _
      rw [q2, q0]
/-- The pairs of a slice. -/
def ArgL (F : SP) (pl : Option Addr) (nl : Nat) (lk : Nat → Nat → Int) : Prop := 0 < nl → ∃ (b off : Nat) (ls : List Value) (T : TypeId) (fr : Nat × Nat), pl = some ⟨b, off, none⟩ ∧ Has F b (.cells ls.toArray T fr) ∧ ∀ i k, i < nl → k < 2 → ls[off + i * 2 + k * 1]? = some (encI (lk i k))
theorem ArgL.star {F G : SP} {pl : Option Addr} {nl : Nat} {lk : Nat → Nat → Int} (h : ArgL F pl nl lk) : ArgL (star F G) pl nl lk := fun h0 =>
  let ⟨b, off, ls, T, fr, h1, h2, h3⟩ := h h0
  ⟨b, off, ls, T, fr, h1, h2.star, h3⟩
theorem range2 : Array.range 2 = #[0, 1] := rfl
def emptyT : TS := { ents := [], queue := [], phase := 0, next := 0, found := none }
section
variable {pl pr : Option Addr} {nl cl nr cr : Nat} {lk : Nat → Nat → Int} {ir : Src} {roots : List Int}
set_option maxHeartbeats 8000000 in
theorem lawBegin (hlen : roots.length = nr) (hcap : nr ≤ cr) (hsv : SrcV ir nr (.slice pr nr cr) (roots.map encI)) :
    CH Try.prog (fun F => Up F ∧ ArgL F pl nl lk ∧ HasS F ir) 4 [.agg [.slice pl nl cl, .slice pr nr cr].toArray] []
      (fun v L' => ∃ b h r m mn t u H sl, v = .tuple [.pointer (some ⟨b, 0, none⟩), .bool true].toArray ∧ PH (min nl 12) sl H ∧ slOk (min nl 12) sl ∧
        L' = [bothA b h r (some ⟨m, 0, none⟩) mn t u, markA m h ((lroots (osB (min nl 12) sl) roots).foldl (shadeP H) (fun _ => none, [])).1 ((lroots (osB (min nl 12) sl) roots).foldl (shadeP H) (fun _ => none, [])).2, heapA h H,
          rheapA r { RB (min nl 12) with os := osB (min nl 12) sl }, tabA t emptyT]) := by
  obtain ⟨n, hn⟩ : ∃ n, n = min nl 12 := ⟨_, rfl⟩
  rw [← hn]
  have hn12 : n ≤ 12 := by omega
  have hnl : n ≤ nl := by omega
  refine CH_enter1 Try.func4 rfl rfl rfl fun β F hF => ?_
  obtain ⟨hup, hal, hhs⟩ := hF
  refine go ?_
  refine WO_box (l := [.slice pl nl cl, .slice pr nr cr]) rfl rfl rfl rfl rfl rfl fun sb => ?_
  refine go ?_
  refine call tabNew ?_
  rintro _ _ ⟨t, rfl, rfl⟩
  refine go ?_
  refine call r13New ?_
  rintro _ _ ⟨u, rfl, rfl⟩
  refine go ?_
  refine WO_box (l := [.pointer none, .pointer none, .pointer none, .pointer none, .pointer (some ⟨t, 0, none⟩), .pointer (some ⟨u, 0, none⟩)]) rfl rfl rfl rfl rfl rfl fun b => ?_
  refine go ?_
  refine call (heapNew (n := 24) (by omega)) ?_
  rintro _ _ ⟨h, rfl, rfl⟩
  refine go ?_
  refine WO_store rfl rfl rfl rfl rfl updA .zero rfl rfl ?_
  refine go ?_
  refine call (r11New (n := 24) (by omega)) ?_
  rintro _ _ ⟨r, rfl, rfl⟩
  refine go ?_
  refine WO_store rfl rfl rfl rfl rfl updA (.succ .zero) rfl rfl ?_
  refine go ?_
  rw [← HB0, ← RB0]
  refine WT_keep [7, 4, 1] rfl ?_
  refine pickN (As := [bothA b h r none none t u, cel sb [.slice pl nl cl, .slice pr nr cr] 25, heapA h (HB 0), rheapA r (RB 0), tabA t emptyT]) ?_
  refine WT_loopN n (fun _ => True) (fun i => [(7, .int .i64 (i : Int)), (4, .pointer (some ⟨b, 0, none⟩)), (1, .pointer (some ⟨sb, 0, none⟩))])
    (fun i => [bothA b h r none none t u, cel sb [.slice pl nl cl, .slice pr nr cr] 25, heapA h (HB i), rheapA r (RB i), tabA t emptyT]) ?_ 0 (Nat.zero_le _) trivial
  intro i hi _ ih
  by_cases hlt : i < n
  · have hi12 : i < 12 := by omega
    have hinl : (i : Int) < (nl : Int) := by omega
    refine go ?_
    refine WO_buildSlice (len := 2) (ps := [(0, .const (.bool true)), (1, .const (.bool true))]) (us := [.bool true, .bool true]) (l := [.bool true, .bool true]) rfl rfl (by decide) (by simp [Instr.fill, range2, Value.cells]) (by decide) rfl rfl rfl fun lb => ?_
    refine go ?_
    refine call (heapNewObject (h := h) (H := HB i) (n := i + 1) (k := 0) (us := [true, true]) (b := lb) (off := 0) (c := 2) (l := [.bool true, .bool true]) ⟨by decide, by decide⟩ (by decide) rfl (HB_ok i hi12)) ?_
    intro v' L' hR
    unfold newR at hR
    rw [show ([true, true] : List Bool).length = 2 from rfl, HB_add i hi12] at hR
    obtain ⟨rfl, rfl⟩ := hR
    refine go ?_
    refine WO_buildSlice (len := 2) (ps := [(0, .const (.bool true)), (1, .const (.bool true))]) (us := [.bool true, .bool true]) (l := [.bool true, .bool true]) rfl rfl (by decide) (by simp [Instr.fill, range2, Value.cells]) (by decide) rfl rfl rfl fun lb2 => ?_
    refine go ?_
    refine call (r11NewObject (h := r) (R := RB i) (m := i + 1) (a := 4 * i) (bu := lb2) (cu := 2) (k := 0) (us := [true, true]) (l := [.bool true, .bool true]) (RB_free i hi12) ⟨by decide, by decide⟩ (by decide) rfl (RB_alloc i hi12) (by omega)) ?_
    rintro _ _ ⟨rfl, rfl⟩
    have eR : ({ RB i with K := (RB (i + 1)).K, Lv := (RB (i + 1)).Lv, os := (RB i).os.set (i + 1) { kind := 2, cls := 0, refs := [true, true], slots := List.replicate ([true, true] : List Bool).length 0, blocks := [4 * i] } } : RS) = RB (i + 1) := by
      have := RB_os i hi12
      show ({ RB i with K := (RB (i + 1)).K, Lv := (RB (i + 1)).Lv, os := (RB i).os.set (i + 1) (oB i 0 0) } : RS) = RB (i + 1)
      rw [this]; rfl
    rw [eR]
    refine go ?_
    refine WT_keep [7, 4, 1] rfl ?_
    exact pickN (ih hlt trivial)
  · have hin : i = n := by omega
    subst hin
    clear ih hlt
    have hPH0 := PH_base i hn12
    have hR0 : RB i = { RB i with os := osB i fun _ _ => 0 } := rfl
    apply join0
    · intro z
      by_cases hc : (i : Int) < (nl : Int)
      · have h12 : ¬ (i : Int) < 12 := by omega
        refine go ?_
        refine WT_keep [12, 4, 1] rfl ?_
        exact z.it
      · refine go ?_
        refine WT_keep [12, 4, 1] rfl ?_
        exact z.it
    rw [hR0]
    refine WT_loopX i (fun _ (x : HS × (Nat → Nat → Int)) => PH i x.2 x.1 ∧ slOk i x.2) (fun j _ => [(12, .int .i64 (j : Int)), (4, .pointer (some ⟨b, 0, none⟩)), (1, .pointer (some ⟨sb, 0, none⟩))])
      (fun _ x => [bothA b h r none none t u, cel sb [.slice pl nl cl, .slice pr nr cr] 25, heapA h x.1, rheapA r { RB i with os := osB i x.2 }, tabA t emptyT]) ?_ 0 (HB i, fun _ _ => 0) (Nat.zero_le _) ⟨hPH0, fun _ _ _ _ => .inl rfl⟩
    rintro j ⟨H, sl⟩ hj ⟨hPH, hsl⟩ ih
    dsimp only at hPH hsl ih ⊢
    by_cases hlt : j < i
    · have hj12 : j < 12 := by omega
      have hjnl : (j : Int) < (nl : Int) := by omega
      have hjnl' : j < nl := by omega
      obtain ⟨bl, off, ls, T, fr, hpl, hHas, hls⟩ := hal (by omega)
      subst hpl
      refine go ?_
      refine WT_keep [13, 12, 4, 1] rfl ?_
      refine WT_loopX 2 (fun _ (x : HS × (Nat → Nat → Int)) => PH i x.2 x.1 ∧ slOk i x.2) (fun k _ => [(13, .int .i64 (k : Int)), (12, .int .i64 (j : Int)), (4, .pointer (some ⟨b, 0, none⟩)), (1, .pointer (some ⟨sb, 0, none⟩))])
        (fun _ x => [bothA b h r none none t u, cel sb [.slice (some ⟨bl, off, none⟩) nl cl, .slice pr nr cr] 25, heapA h x.1, rheapA r { RB i with os := osB i x.2 }, tabA t emptyT]) ?_ 0 (H, sl) (Nat.zero_le _) ⟨hPH, hsl⟩
      clear hPH hsl
      rintro k ⟨H, sl⟩ hk ⟨hPH, hsl⟩ ih2
      dsimp only at hPH hsl ih2 ⊢
      by_cases hk2 : k < 2
      · have hat := hls j k hjnl' hk2
        obtain ⟨e, H', sl', hs1, hs2, hPH', hsl'⟩ := hPH.set hn12 hsl hlt hk2 (lk j k)
        refine go ?_
        refine WT_inv [bothA b h r none none t u, cel sb [.slice (some ⟨bl, off, none⟩) nl cl, .slice pr nr cr] 25] ?_
        refine WI_q 0 rfl qq rfl (by kernel_rfl) rfl rfl rfl ?_ remsA
        refine WI_q 1 rfl qq rfl (by kernel_rfl) rfl rfl rfl ?_ remsA
        refine WI_q 2 rfl qq rfl (by kernel_rfl) rfl rfl rfl ?_ remsA
        refine WI_q 3 rfl qq rfl (by kernel_rfl) rfl rfl rfl ?_ remsA
        refine WI_q 4 rfl qq rfl (by kernel_rfl) rfl rfl rfl ?_ remsA
        refine WI_q 5 rfl qq rfl (by kernel_rfl) rfl rfl rfl ?_ remsA
        refine WI_q 6 rfl qq rfl (by kernel_rfl) rfl rfl rfl ?_ remsA
        refine WI_q 7 rfl qq rfl (by kernel_rfl) rfl rfl rfl ?_ remsA
        refine WI_q 8 rfl qq rfl (by kernel_rfl) rfl rfl rfl ?_ remsA
        refine WI_q 9 rfl qq rfl (by kernel_rfl) rfl rfl rfl ?_ remsA
        refine WI_q 10 rfl qq rfl (by kernel_rfl) rfl rfl rfl ?_ remsA
        refine WI_q 11 rfl qq rfl (by kernel_rfl) rfl rfl rfl ?_ remsA
        refine WI_q 12 rfl qq rfl (by kernel_rfl) rfl rfl rfl ?_ remsA
        refine WI_q 13 rfl (OpU.has hHas (fun _ => qq) rfl) rfl (by kernel_rfl) rfl rfl rfl ?_ remsA
        refine WI_q 15 rfl qq rfl (by kernel_rfl) rfl rfl rfl ?_ remsA
        refine WI_q 16 rfl qq rfl (by kernel_rfl) rfl rfl rfl ?_ remsA
        refine WI_q 17 rfl qq rfl (by kernel_rfl) rfl rfl rfl ?_ remsA
        refine WI_q 18 rfl qq rfl (by kernel_rfl) rfl rfl rfl ?_ remsA
        refine WI_q 19 rfl qq rfl (by kernel_rfl) rfl rfl rfl ?_ remsA
        refine WI_q 20 rfl qq rfl (by kernel_rfl) rfl rfl rfl ?_ remsA
        refine WI_q 21 rfl qq rfl (by kernel_rfl) rfl rfl rfl ?_ remsA
        refine WI_q 22 rfl qq rfl (by kernel_rfl) rfl rfl rfl ?_ remsA
        refine WI_q 23 rfl qq rfl (by kernel_rfl) rfl rfl rfl ?_ remsA
        refine WI_q 24 rfl qq rfl (by kernel_rfl) rfl rfl rfl ?_ remsA
        refine WI_q 25 rfl qq rfl (by kernel_rfl) rfl rfl rfl ?_ remsA
        refine WI_q 26 rfl qq rfl (by kernel_rfl) rfl rfl rfl ?_ remsA
        refine WI_q 27 rfl qq rfl (by kernel_rfl) rfl rfl rfl ?_ remsA
        refine WI_q 28 rfl (OpU.has hHas (fun _ => qq) rfl) rfl (by kernel_rfl) rfl rfl rfl ?_ remsA
        refine WI_one 14 (by kernel_rfl) rfl ?_
        refine call (heapSet (h := h) (H := H) ((j + 1 : Nat) : Int) (k : Int) (lk j k) (hPH.thOk hn12 _)) ?_
        rintro _ _ ⟨rfl, rfl⟩
        rw [hs1]
        refine WI_nil ?_ remsA
        refine WI_one 29 (by kernel_rfl) rfl ?_
        have hr11 := r11Set (h := r) (R := { RB i with os := osB i sl }) (osB_ok hn12) ((j + 1 : Nat) : Int) (k : Int) (lk j k)
        dsimp only at hr11
        rw [hs2] at hr11
        refine call hr11 ?_
        rintro _ _ ⟨rfl, rfl⟩
        refine WI_nil ?_ remsA
        refine WI_q 30 rfl qq rfl (by kernel_rfl) rfl rfl rfl ?_ remsA
        refine WI_done (by kernel_rfl) ?_
        refine go ?_
        refine WT_keep [13, 12, 4, 1] rfl ?_
        exact pickN (ih2 (H', sl') hk2 ⟨hPH', hsl'⟩)
      · have hk3 : k = 2 := by omega
        subst hk3
        refine go ?_
        refine WT_keep [12, 4, 1] rfl ?_
        exact ih (H, sl) hlt ⟨hPH, hsl⟩
    · have hji : j = i := by omega
      subst hji
      clear ih
      apply join0
      · intro z
        by_cases hc : (j : Int) < (nl : Int)
        · have h12 : ¬ (j : Int) < 12 := by omega
          refine go ?_
          refine WO_keep (E' := [(125, .pointer (some ⟨b, 0, none⟩)), (126, .pointer (some ⟨b, 0, none⟩)), (128, .slice pr nr cr)]) [125, 126, 128] rfl ?_
          exact z.it
        · refine go ?_
          refine WO_keep (E' := [(125, .pointer (some ⟨b, 0, none⟩)), (126, .pointer (some ⟨b, 0, none⟩)), (128, .slice pr nr cr)]) [125, 126, 128] rfl ?_
          exact z.it
      obtain ⟨F', hl1, hl2⟩ := lendIn hup hsv hhs
      have hm := (lawMark (ib := ir) (b := b) (h := h) (r := r) (nr := nr) (cv := cr) (t := t) (u := u) (m0 := none) (n0 := none) (pv := pr) (H := H) (R := { RB j with os := osB j sl }) (roots := roots) (osB_ok hn12) (osB_closed hn12 hsl) (hPH.agree hn12) hlen hcap).pre
        (L := inA ir nr (.slice pr nr cr) (roots.map encI) :: [bothA b h r none none t u, heapA h H, rheapA r { RB j with os := osB j sl }]) (fun h s => sep_perm (List.perm_append_comm (l₁ := [_])) s)
      refine WO_callLent hl1 hl2 hm (R' := fun v L' => ∃ m n, v = .bool true ∧ L' = [bothA b h r (some ⟨m, 0, none⟩) n t u, markA m h ((lroots (osB j sl) roots).foldl (shadeP H) (fun _ => none, [])).1 ((lroots (osB j sl) roots).foldl (shadeP H) (fun _ => none, [])).2, heapA h H, rheapA r { RB j with os := osB j sl }])
        (fun v L' ⟨m, n, e1, e2⟩ => ⟨_, by rw [e2]; exact (List.perm_append_comm (l₁ := [_, _, _, _]) (l₂ := [_])), m, n, e1, rfl⟩) rfl rfl remsA rfl rfl rfl ?_
      rintro _ _ ⟨m, mn, rfl, rfl⟩
      refine go ?_
      refine pickN (As := [bothA b h r (some ⟨m, 0, none⟩) mn t u, markA m h ((lroots (osB j sl) roots).foldl (shadeP H) (fun _ => none, [])).1 ((lroots (osB j sl) roots).foldl (shadeP H) (fun _ => none, [])).2, heapA h H, rheapA r { RB j with os := osB j sl }, tabA t emptyT]) ?_
      refine WT_ret (rs := [.tmp 2, .tmp 3]) Try.func4 rfl rfl ⟨b, h, r, m, mn, t, u, H, sl, rfl, hPH, hsl, rfl⟩
end
end Go.Proofs.Ytkknhcdjdcpfcaa
