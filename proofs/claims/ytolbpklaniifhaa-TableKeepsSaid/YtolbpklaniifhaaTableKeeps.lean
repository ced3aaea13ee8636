/- What is set in a table is got, the words beside it stay; filling and copying are as they are told: 'TableKeeps' comes to true, whatever its list and its numbers. No condition. -/
import Derived.Test.YtolbpklaniifhaaRows
import Derived.Test.YtolbpklaniifhaaSx
import Derived.OpenShut
import Derived.JoinedCond
import Derived.KernelRfl
import Derived.Carry
namespace Go.Proofs.Ytolbpklaniifhaa.tableKeeps
open Go.ChangeShapes Go.WideShapes Go.ChangeAt Go.RowKit
set_option linter.unusedVariables false

theorem own : ownKnob Try.prog.godebug = none := by kernel_rfl
theorem mixed : Try.prog.follows .mixedOrders = true := by kernel_rfl
theorem laidOut : laidOutB Try.prog = true := by kernel_rfl
theorem cells23 : Try.prog.cellsOf 23 = 1 := by kernel_rfl

theorem u64_wf {n : Int} (h : (Lit.int .u64 n).wf = true) : 0 ≤ n := by
  have : 0 ≤ n ∧ n ≤ IntKind.u64.max := by simpa [Lit.wf, IntKind.min, IntKind.signed] using h
  exact this.1

theorem walk_nil (i v src at_ n : Int) (W : World) :
    Calls Try.prog 3 #[.slice none 0 0, .int .u64 i, .int .u64 v, .int .u64 src, .int .u64 at_, .int .u64 n] W fun e W' => e = .returned (.bool true) ∧ Below W.heap.size W W' := by
  obtain ⟨Hk, hk⟩ := Go.Cn.known_at0 (K := 60) (by omega)
  have := Go.Cn.main_short (K := 60) (by omega) hk (A := none) (len := 0) (cc := 0) (by omega) (.int .u64 i) (.int .u64 v) (.int .u64 src) (.int .u64 at_) (.int .u64 n)
  exact Go.Cn.calls_from mixed (Go.Cn.Rel.start W) (.cons (.nilSlice 0) (.cons (.int _ _) (.cons (.int _ _) (.cons (.int _ _) (.cons (.int _ _) (.cons (.int _ _) (.nil _))))))) this

theorem walk_row (b o len cap : Nat) (zs : List Int) (hlc : len ≤ cap) (hz : zs.length = cap) (i v src at_ n : Int) (hi : 0 ≤ i) (hs : 0 ≤ src) (ha : 0 ≤ at_) (hn : 0 ≤ n) (W : World)
    (hpos : 1 ≤ len) (hcell : ∀ j, j < zs.length → W.cell? ⟨b, o + j, none⟩ = some (.int .u64 (zs.getD j 0))) :
    Calls Try.prog 3 #[.slice (some ⟨b, o, none⟩) len cap, .int .u64 i, .int .u64 v, .int .u64 src, .int .u64 at_, .int .u64 n] W fun e W' => e = .returned (.bool true) ∧ Below W.heap.size W W' := by
  have hc0 := hcell 0 (by omega)
  obtain ⟨c', e', fz, ho⟩ : ∃ c' e' fz, W.heap[b]? = some (.cells c' e' fz) := by
    unfold World.cell? at hc0
    split at hc0
    · rename_i c e f h; exact ⟨c, e, f, h⟩
    · cases hc0
  have hc : ∀ j, j < zs.length → c'[o + j]? = some (.int .u64 (zs.getD j 0)) := fun j hj => by
    have := hcell j hj
    unfold World.cell? at this
    rw [ho] at this
    simpa using this
  have hd : o + (Go.Cn.wc (zs.take len)).length ≤ c'.size := by
    have := (Array.getElem?_eq_some_iff.1 (hc (len - 1) (by omega))).1
    rw [Go.Cn.wc_len, List.length_take]; omega
  have hr := Go.Cn.Rel.start1 (cs := Go.Cn.wc (zs.take len)) (e := 23) W ho hd (fun k hk => by
    rw [Go.Cn.wc_len, List.length_take] at hk
    have e1 : (Go.Cn.wc (zs.take len)).getD k undef = .int .u64 (zs.getD k 0) := by
      simp [Go.Cn.wc, List.getD_eq_getElem?_getD, List.getElem?_take_of_lt (show k < len by omega), show k < zs.length by omega]
    have e2 : c'.getD (o + k) undef = .int .u64 (zs.getD k 0) := by
      have := hc k (by omega)
      rw [Array.getD_eq_getD_getElem?, this]; rfl
    rw [e1, e2]; exact .int _ _)
  have hv : Go.Cn.VRs (Go.Cn.ρ1 b o c'.size) [.slice (some ⟨0, 0, none⟩) len (2 * cap + 1), .int .u64 i, .int .u64 v, .int .u64 src, .int .u64 at_, .int .u64 n] (#[.slice (some ⟨b, o, none⟩) len cap, .int .u64 i, .int .u64 v, .int .u64 src, .int .u64 at_, .int .u64 n] : Array Value).toList := by
    have h0 := Go.Cn.VR.sliceOf (ρ := Go.Cn.ρ1 b o c'.size) 0 0 ⟨b, o, c'.size⟩ len cap (by simp [Go.Cn.ρ1]) hlc
    simp only [Nat.zero_add] at h0
    exact .cons h0 (.cons (.int _ _) (.cons (.int _ _) (.cons (.int _ _) (.cons (.int _ _) (.cons (.int _ _) (.nil _))))))
  obtain ⟨Hk, hk, fk⟩ := Go.Cn.known_at1 (K := 300000) (by omega) (Go.Cn.wc (zs.take len))
  have hlen : (zs.take len).length = len := by rw [List.length_take]; omega
  by_cases h2 : len ≤ 200
  · obtain ⟨H', h⟩ := Go.Cn.main_spec (K := 300000) (by omega) hk fk (Nat.le_refl _) (s := 0) (cc := 2 * cap + 1) (w := zs.take len) rfl (by show 0 < 1; omega) (by omega) (by omega) (.inl ⟨by omega, by omega⟩) (i := i) (v := v) (src := src) (at_ := at_) (n := n) hi hs ha hn
    rw [hlen] at h
    exact Go.Cn.calls_from mixed hr hv h
  · exact Go.Cn.calls_from mixed hr hv (Go.Cn.main_short (K := 300000) (by omega) hk (.inr (by omega)) _ _ _ _ _)

theorem walk_empty (b o cap : Nat) (i v src at_ n : Int) (W : World) (hb : ∃ c' e' fz, W.heap[b]? = some (.cells c' e' fz)) :
    Calls Try.prog 3 #[.slice (some ⟨b, o, none⟩) 0 cap, .int .u64 i, .int .u64 v, .int .u64 src, .int .u64 at_, .int .u64 n] W fun e W' => e = .returned (.bool true) ∧ Below W.heap.size W W' := by
  obtain ⟨c', e', fz, ho⟩ := hb
  have hr := Go.Cn.Rel.start1 (cs := []) (e := 23) (d := 0) W ho (by simp) (fun k hk => by simp at hk)
  have hv : Go.Cn.VRs (Go.Cn.ρ1 b 0 c'.size) [.slice (some ⟨0, o, none⟩) 0 (2 * cap + 1), .int .u64 i, .int .u64 v, .int .u64 src, .int .u64 at_, .int .u64 n] (#[.slice (some ⟨b, o, none⟩) 0 cap, .int .u64 i, .int .u64 v, .int .u64 src, .int .u64 at_, .int .u64 n] : Array Value).toList := by
    have h0 := Go.Cn.VR.sliceOf (ρ := Go.Cn.ρ1 b 0 c'.size) 0 o ⟨b, 0, c'.size⟩ 0 cap (by simp [Go.Cn.ρ1]) (by omega)
    exact .cons h0 (.cons (.int _ _) (.cons (.int _ _) (.cons (.int _ _) (.cons (.int _ _) (.cons (.int _ _) (.nil _))))))
  obtain ⟨Hk, hk, _⟩ := Go.Cn.known_at1 (K := 300000) (by omega) []
  exact Go.Cn.calls_from mixed hr hv (Go.Cn.main_short (K := 300000) (by omega) hk (.inl (by omega)) _ _ _ _ _)

theorem contract (H : Type) (enc : TypeId × Value → H) (W : World) (base : Nat) (args : Array Value) (ds gs : List (DataW H)) (before : List MemPlace)
    (hval : ∀ (j : Nat) t v, Try.f3.params[j]? = some t → args[j]? = some v → Value.okWide Try.prog W .any base t v)
    (hW : DataW.Whole enc Try.prog Try.f3.params.toList Rows.tableKeepsSpec.vars false W args.toList ds gs before) :
    Calls Try.prog 3 args W fun e W' => ∃ v, e = .returned v ∧ Rows.tableKeepsSpec.post enc Try.prog Try.f3 false true false false W args v W' := by
  have hW' := hW
  obtain ⟨p, q, hA0, hV, rfl, hfz, hnd⟩ := hW
  have hA : DataW.TrodAll enc Try.prog W 0 (fun _ => true) true Try.f3.params.toList args.toList ds p := hA0
  rw [Try.params3] at hA hval
  obtain ⟨v0, vs0, d0, ds0, p0, q0, hargs, rfl, rfl, h0, r0⟩ := trodAll_cons hA
  obtain ⟨v1, vs1, d1, ds1, p1, q1, rfl, rfl, rfl, h1, r1⟩ := trodAll_cons r0
  obtain ⟨v2, vs2, d2, ds2, p2, q2, rfl, rfl, rfl, h2, r2⟩ := trodAll_cons r1
  obtain ⟨v3, vs3, d3, ds3, p3, q3, rfl, rfl, rfl, h3, r3⟩ := trodAll_cons r2
  obtain ⟨v4, vs4, d4, ds4, p4, q4, rfl, rfl, rfl, h4, r4⟩ := trodAll_cons r3
  obtain ⟨v5, vs5, d5, ds5, p5, q5, rfl, rfl, rfl, h5, r5⟩ := trodAll_cons r4
  obtain ⟨rfl, rfl, rfl⟩ := trodAll_nil r5
  obtain rfl : args = #[v0, v1, v2, v3, v4, v5] := by cases args; simp_all
  obtain ⟨rfl, rfl⟩ := trodVars_none hV
  obtain ⟨i, rfl, rfl, rfl, wi⟩ := open_int Try.underlying23 (hval 1 23 v1 rfl rfl) h1
  obtain ⟨v, rfl, rfl, rfl, wv⟩ := open_int Try.underlying23 (hval 2 23 v2 rfl rfl) h2
  obtain ⟨src, rfl, rfl, rfl, ws⟩ := open_int Try.underlying23 (hval 3 23 v3 rfl rfl) h3
  obtain ⟨at_, rfl, rfl, rfl, wt⟩ := open_int Try.underlying23 (hval 4 23 v4 rfl rfl) h4
  obtain ⟨n, rfl, rfl, rfl, wn⟩ := open_int Try.underlying23 (hval 5 23 v5 rfl rfl) h5
  obtain ⟨a0, len, cap, rfl⟩ := okWide_slice Try.underlying22 (hval 0 22 v0 rfl rfl)
  clear hA0
  simp only [List.append_nil] at hW'
  have h0' := h0
  obtain ⟨fuel, hf⟩ := h0
  have main : Calls Try.prog 3 #[.slice a0 len cap, .int .u64 i, .int .u64 v, .int .u64 src, .int .u64 at_, .int .u64 n] W fun e W' => e = .returned (.bool true) ∧ Below W.heap.size W W' := by
    rcases open_ints Try.underlying22 Try.underlying23 cells23 hf with ⟨hcs, _⟩ | ⟨a, len', cap', zs, hcs, _, hl, hm, hz, _, hcell, _⟩
    · simp [Value.cells] at hcs
      obtain ⟨rfl, rfl, rfl⟩ := hcs
      exact walk_nil i v src at_ n W
    · simp [Value.cells] at hcs
      obtain ⟨rfl, rfl, rfl⟩ := hcs
      simp only [if_true] at hz
      by_cases hp : len = 0
      · subst hp
        have hh := hval 0 22 _ rfl rfl
        simp only [Value.okWide, Try.underlying22, Cell.okWide, Cell.ok] at hh
        obtain ⟨_, _, _, hs, row, cells, hsh, _⟩ := hh
        obtain ⟨ab, ao, asp⟩ := a
        simp only at hs hsh; subst hs
        refine walk_empty ab ao cap i v src at_ n W ?_
        unfold World.shape? at hsh
        split at hsh
        · rename_i c e f h; exact ⟨c, e, f, h⟩
        · cases hsh
      · have hs : a.spot = none := by simpa [Addr.add] using World.cell?_spot (hcell 0 (by omega))
        obtain ⟨ab, ao, asp⟩ := a
        simp only at hs; subst hs
        exact walk_row ab ao len cap zs hl hz i v src at_ n (u64_wf wi) (u64_wf ws) (u64_wf wt) (u64_wf wn) W (by omega) (fun j hj => by rw [← add_plain]; exact hcell j hj)
  refine main.mono fun e W' ⟨he, hg⟩ => ?_
  subst he
  have hlt : ∀ x ∈ p0, x.block < W.heap.size := fun x hx => hW'.lt x hx
  exact ⟨_, rfl, Go.Cn.post_below (pa := p0) (pv := []) hW' (fun _ _ _ => (trodAll_cons_mk (shut_bool Try.underlying4 _) trodAll_mk0))
    (fun sp hsp => by
      have hh := WideElems.Trod_stays (sp' := sp) laidOut (by kernel_rfl) (of_decide_eq_true (by kernel_rfl)) h0' (fun x hx => hg.same (hlt x hx)) (fun x hx => hsp x hx)
      have := trodAll_cons_mk hh (trodAll_cons_mk (shut_int Try.underlying23 wi) (trodAll_cons_mk (shut_int Try.underlying23 wv) (trodAll_cons_mk (shut_int Try.underlying23 ws) (trodAll_cons_mk (shut_int Try.underlying23 wt) (trodAll_cons_mk (shut_int Try.underlying23 wn) trodAll_mk0)))))
      simp only [List.append_nil] at this
      exact this) (fun _ _ => rfl) (by simp)
    hg (ok_one (by kernel_rfl) rfl (okWide_bool_mk Try.underlying4 _))⟩

set_option maxRecDepth 100000 in
theorem lifted (os : Os) (started : os.Started) (H : Type) (enc : TypeId × Value → H) :
    ReturnsInHanded {} Try.checked os 3 .any (Rows.tableKeepsSpec.pre6 enc Try.prog Try.f3 Rows.tableKeepsRow.domain false) (Rows.tableKeepsSpec.post enc Try.prog Try.f3 false true false false) := by
  refine returnsInHanded_of_change (C := Try.checked) own started (by kernel_rfl) Try.func3
    (ChangeSpec.witness6 (enc := enc) (C := Try.checked) false ⟨#[], #[.slice none 0 0, .int .u64 0, .int .u64 0, .int .u64 0, .int .u64 0, .int .u64 0], []⟩ 8 (by kernel_rfl) (by kernel_rfl) (by kernel_rfl) (by kernel_rfl)) ?_
  intro W base args ds gs before hval hW _ _
  exact contract H enc W base args ds gs before hval hW

theorem proved : Rows.TableKeepsSaid :=
  OpenClaim.holds_of_wide 3 Try.f3 rfl rfl rfl rfl rfl rfl rfl ⟨rfl, rfl, rfl, rfl, rfl⟩ rfl rfl rfl rfl rfl (by kernel_rfl) Try.func3 (by kernel_rfl)
    (of_decide_eq_true (by kernel_rfl)) (by unfold Func.isWrapper; first | (rw [if_pos (by decide +kernel)]; kernel_rfl) | (rw [if_neg (by decide +kernel)]; exact ⟨rfl, rfl⟩))
    (fun os started H enc _ => lifted os started H enc)
#print axioms proved
end Go.Proofs.Ytolbpklaniifhaa.tableKeeps
