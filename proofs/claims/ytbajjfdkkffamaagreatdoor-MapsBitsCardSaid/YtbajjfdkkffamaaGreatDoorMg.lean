/- Bits of maps: 'MapsBits' comes to true, whatever its list, its words and its number. No condition of the arguments. -/
import Derived.Test.YtbajjfdkkffamaaGreatDoorMf
import Derived.Test.YtbajjfdkkffamaaGreatDoorRows
import Derived.Test.YtbajjfdkkffamaaGreatDoorTie
import Derived.Shelf.Vars
import Derived.Stop.LaidErr
import Derived.Lib.LaidTab
import Derived.LaidMore
import Derived.LaidOnce
import Derived.OpenShut
import Derived.JoinedCond
import Derived.KernelRfl
import Derived.Carry
namespace Go.Proofs.YtbajjfdkkffamaaGreatDoor.mapsBits
open Go.ChangeShapes Go.WideShapes Go.ChangeAt Go.RowKit
set_option linter.unusedVariables false
set_option maxRecDepth 100000

theorem own : ownKnob Tryz.prog.godebug = none := by kernel_rfl
theorem laidOut : laidOutB Tryz.prog = true := by kernel_rfl
theorem cells66 : Tryz.prog.cellsOf 66 = 1 := by kernel_rfl
theorem cells4 : Tryz.prog.cellsOf 4 = 1 := by kernel_rfl

/-! ### What the row's condition and the world's shape give -/
theorem gSp : Tryz.prog.globalNamed "strings.asciiSpace" = some 0 := by kernel_rfl
theorem tSp : (Tryz.prog.globals[0]?).map (·.type) = some 328 := by kernel_rfl
theorem cSp : Tryz.prog.cellsOf 328 = 256 := by kernel_rfl
theorem c5 : Tryz.prog.cellsOf 5 = 1 := by kernel_rfl
def zsSp : List Int := (List.range 256).map fun c => if Lib.isSp (UInt8.ofNat c) then 1 else 0
theorem dSp : (Rows.laid_strings_asciiSpace : DataW Unit) = Lib.tabData .u8 zsSp := by kernel_rfl
theorem zs_len : zsSp.length = 256 := by kernel_rfl
theorem plainLaid : (Rows.mapsBitsRow.laid.all fun x => x.2.handleName?.isNone) = true := by kernel_rfl
theorem facts {W : World} (h : laidMetH Tryz.prog Rows.mapsBitsRow.laid W) (hs : W.ShapedOpen Tryz.prog) : Go.Cn.Facts W := by
  refine ⟨?_, fun c hc => ?_⟩
  · exact cell_of_shapedOpen_int hs (by decide +kernel) (zero := #[.int .i64 0]) (t := 3) (by kernel_rfl) rfl (by kernel_rfl) (by kernel_rfl) Tryz.underlying3
  · rw [MakeChecks.laidMetH_plain _ _ _ plainLaid] at h
    have h5 : laidMet Tryz.prog [("strings.asciiSpace", Lib.tabData .u8 zsSp)] W := by
      rw [← dSp]
      exact laidMet.tail (laidMet.tail (laidMet.tail (laidMet.tail h)))
    have t := Lib.tabIs_of_head gSp tSp Tryz.underlying328 Tryz.underlying5 c5 cSp h5
    have := t.cell gSp c (by rw [zs_len]; exact hc)
    rw [this]
    simp [zsSp, List.getD_eq_getElem?_getD, hc]

/-! ### The list of truths -/
theorem open_bools {H : Type} {enc : TypeId × Value → H} {w : World} {base : Nat} {sp : Nat → Bool} {held : Bool} {fuel : Nat} {cs : List Value} {x : DataW H × List MemPlace}
    (h : DataW.trod enc Tryz.prog w base sp held fuel 22 cs = some x) :
    (cs = [.slice none 0 0]) ∨ ∃ (a : Addr) (len cap : Nat) (l : List Bool), cs = [.slice (some a) len cap] ∧ len ≤ cap ∧ l.length = len ∧ ∀ i, i < len → w.cell? (a.add i) = some (.bool (l.getD i false)) := by
  rcases DataW.trod_slice Tryz.underlying22 h with ⟨h0, _⟩ | ⟨a, len, cap, elems, rest, n, _, rfl, rfl, hb, hl, hm, hlen, hel, hsp, hns⟩
  · exact .inl h0
  right
  have each : ∀ i, i < len → ∃ b, w.cell? (a.add i) = some (.bool b) := fun i hi => by
    have h1 := hel i hi
    rw [cells4, Nat.mul_one, List.getElem?_eq_getElem (by omega)] at h1
    rw [Option.bind_eq_some_iff] at h1
    obtain ⟨cs', hcs, hy⟩ := h1
    obtain ⟨b, rfl, _⟩ := DataW.trod_bool Tryz.underlying4 hy
    exact ⟨b, cell_of_cells?_one hcs⟩
  refine ⟨a, len, cap, (List.range len).map fun i => (match w.cell? (a.add i) with | some (.bool b) => b | _ => false), rfl, hl, by simp, fun i hi => ?_⟩
  obtain ⟨b, hb⟩ := each i hi
  rw [hb]
  simp [List.getD_eq_getElem?_getD, hi, hb]

theorem block_of {W : World} {t e : TypeId} {base : Nat} {a : Addr} {len cap : Nat} (ht : Tryz.prog.underlying t = some (.slice e)) (h : Value.okWide Tryz.prog W .any base t (.slice (some a) len cap)) :
    a.spot = none ∧ ∃ c' e' fz, W.heap[a.block]? = some (.cells c' e' fz) := by
  simp only [Value.okWide, ht, Cell.okWide, Cell.ok] at h
  obtain ⟨_, _, _, hs, row, cells, hsh, _⟩ := h
  obtain ⟨ab, ao, asp⟩ := a
  simp only at hs hsh; subst hs
  refine ⟨rfl, ?_⟩
  unfold World.shape? at hsh
  split at hsh
  · rename_i c e f h; exact ⟨c, e, f, h⟩
  · cases hsh
/-- A slice with cells is a row. -/
theorem sl_of {W : World} {t e : TypeId} {base : Nat} {a : Addr} {len cap : Nat} {f : Nat → Value} (ht : Tryz.prog.underlying t = some (.slice e)) (hok : Value.okWide Tryz.prog W .any base t (.slice (some a) len cap)) (hl : len ≤ cap)
    (hc : ∀ i, i < len → W.cell? (a.add i) = some (f i)) (hf : ∀ j, j < len → ∀ ρ, Go.Cn.VR ρ (f j) (f j)) : Go.Cn.Sl W (.slice (some a) len cap) len f := by
  obtain ⟨hs, c', e', fz, ho⟩ := block_of ht hok
  obtain ⟨ab, ao, asp⟩ := a
  simp only at hs ho; subst hs
  by_cases hp : len = 0
  · subst hp; exact Go.Cn.Sl.empty ao cap f ⟨c', e', fz, ho⟩
  · have hc' : ∀ j, j < len → W.cell? ⟨ab, ao + j, none⟩ = some (f j) := fun j hj => by rw [← add_plain]; exact hc j hj
    refine Go.Cn.Sl.row hl ⟨c', e', fz, ho, ?_⟩ hc' hf
    have h1 := hc' (len - 1) (by omega)
    unfold World.cell? at h1
    rw [ho] at h1
    have h2 : c'[ao + (len - 1)]? = some (f (len - 1)) := by simpa using h1
    have := (Array.getElem?_eq_some_iff.1 h2).1
    omega

theorem i64_wf {n : Int} (h : (Lit.int .i64 n).wf = true) : -2 ^ 63 ≤ n ∧ n < 2 ^ 63 := by
  have : IntKind.i64.min ≤ n ∧ n ≤ IntKind.i64.max := by simpa [Lit.wf] using h
  have e1 : IntKind.i64.min = -2 ^ 63 := by kernel_rfl
  have e2 : IntKind.i64.max = 2 ^ 63 - 1 := by kernel_rfl
  rw [e1, e2] at this
  omega
theorem u64_wf {n : Int} (h : (Lit.int .u64 n).wf = true) : 0 ≤ n ∧ n < 2 ^ 64 := by
  have : IntKind.u64.min ≤ n ∧ n ≤ IntKind.u64.max := by simpa [Lit.wf] using h
  have e1 : IntKind.u64.min = 0 := by kernel_rfl
  have e2 : IntKind.u64.max = 2 ^ 64 - 1 := by kernel_rfl
  rw [e1, e2] at this
  omega

theorem contract (H : Type) (enc : TypeId × Value → H) (W : World) (base : Nat) (args : Array Value) (ds gs : List (DataW H)) (before : List MemPlace)
    (hval : ∀ (j : Nat) t v, Tryz.f3.params[j]? = some t → args[j]? = some v → Value.okWide Tryz.prog W .any base t v)
    (hW : DataW.Whole enc Tryz.prog Tryz.f3.params.toList Rows.mapsBitsSpec.vars false W args.toList ds gs before) (hF : Go.Cn.Facts W) :
    Calls Tryz.prog 3 args W fun e W' => ∃ v, e = .returned v ∧ Rows.mapsBitsSpec.post enc Tryz.prog Tryz.f3 false true false false W args v W' := by
  have hW' := hW
  obtain ⟨p, q, hA0, hV, rfl, hfz, hnd⟩ := hW
  have hA : DataW.TrodAll enc Tryz.prog W 0 (fun _ => true) true Tryz.f3.params.toList args.toList ds p := hA0
  rw [Tryz.params3] at hA hval
  obtain ⟨v0, vs0, d0, ds0, p0, q0, hargs, rfl, rfl, h0, r0⟩ := trodAll_cons hA
  obtain ⟨v1, vs1, d1, ds1, p1, q1, rfl, rfl, rfl, h1, r1⟩ := trodAll_cons r0
  obtain ⟨v2, vs2, d2, ds2, p2, q2, rfl, rfl, rfl, h2, r2⟩ := trodAll_cons r1
  obtain ⟨rfl, rfl, rfl⟩ := trodAll_nil r2
  obtain rfl : args = #[v0, v1, v2] := by cases args; simp_all
  obtain ⟨rfl, rfl⟩ := trodVars_none hV
  obtain ⟨i, rfl, rfl, rfl, wi⟩ := open_int Tryz.underlying3 (hval 2 3 v2 rfl rfl) h2
  have ok0 := hval 0 22 v0 rfl rfl
  have ok1 := hval 1 23 v1 rfl rfl
  obtain ⟨a0, len0, cap0, rfl⟩ := okWide_slice Tryz.underlying22 ok0
  obtain ⟨a1, len1, cap1, rfl⟩ := okWide_slice Tryz.underlying23 ok1
  clear hA0
  simp only [List.append_nil] at hW'
  have h0' := h0
  have h1' := h1
  obtain ⟨fuel0, hf0⟩ := h0
  obtain ⟨fuel1, hf1⟩ := h1
  have sL : ∃ l : List Bool, Go.Cn.Sl W (.slice a0 len0 cap0) l.length (fun j => .bool (l.getD j false)) := by
    rcases open_bools hf0 with hcs | ⟨a, len, cap, l, hcs, hl, hlen, hc⟩
    · simp [Value.cells] at hcs
      obtain ⟨rfl, rfl, rfl⟩ := hcs
      exact ⟨[], Go.Cn.Sl.nil W _⟩
    · simp [Value.cells] at hcs
      obtain ⟨rfl, rfl, rfl⟩ := hcs
      subst hlen
      exact ⟨l, sl_of Tryz.underlying22 ok0 hl hc (fun j _ ρ => .bool _)⟩
  have sB : ∃ (m : Nat) (w : Nat → Nat), Go.Cn.Sl W (.slice a1 len1 cap1) m (Go.Cn.wd w) ∧ ∀ j, j < m → w j < 2 ^ 64 := by
    rcases open_ints Tryz.underlying23 Tryz.underlying66 cells66 hf1 with ⟨hcs, _⟩ | ⟨a, len, cap, zs, hcs, _, hl, hm, hz, _, hcell, hwf⟩
    · simp [Value.cells] at hcs
      obtain ⟨rfl, rfl, rfl⟩ := hcs
      exact ⟨0, fun _ => 0, Go.Cn.Sl.nil W _, fun j hj => absurd hj (Nat.not_lt_zero _)⟩
    · simp [Value.cells] at hcs
      obtain ⟨rfl, rfl, rfl⟩ := hcs
      simp only [if_true] at hz
      have bd : ∀ j, j < len1 → 0 ≤ zs.getD j 0 ∧ zs.getD j 0 < 2 ^ 64 := fun j hj => by
        have e : zs.getD j 0 = zs[j]'(by omega) := by simp [List.getD_eq_getElem?_getD, show j < zs.length by omega]
        rw [e]
        exact u64_wf (hwf _ (List.getElem_mem _))
      refine ⟨len1, fun j => (zs.getD j 0).toNat, sl_of Tryz.underlying23 ok1 hl (fun j hj => ?_) (fun j _ ρ => .int _ _), fun j hj => ?_⟩
      · rw [hcell j (by omega)]
        show _ = some (Value.int .u64 (((zs.getD j 0).toNat : Nat) : Int))
        rw [Int.toNat_of_nonneg (bd j hj).1]
      · have := bd j hj
        show (zs.getD j 0).toNat < 2 ^ 64
        omega
  obtain ⟨l, sL⟩ := sL
  obtain ⟨m, w, sB, hw⟩ := sB
  have bi := i64_wf wi
  refine (Go.Cn.walk hF sL sB hw i bi.1 bi.2).mono fun e W' ⟨he, hg⟩ => ?_
  subst he
  have hlt0 : ∀ x ∈ p0, x.block < W.heap.size := fun x hx => hW'.lt x (List.mem_append_left _ hx)
  have hlt1 : ∀ x ∈ p1, x.block < W.heap.size := fun x hx => hW'.lt x (List.mem_append_right _ hx)
  exact ⟨_, rfl, Go.Cn.post_below (pa := p0 ++ p1) (pv := []) hW' (fun _ _ _ => (trodAll_cons_mk (shut_bool Tryz.underlying4 _) trodAll_mk0))
    (fun sp hsp => by
      have hh0 := WideElems.Trod_stays (sp' := sp) laidOut (by kernel_rfl) (of_decide_eq_true (by kernel_rfl)) h0' (fun x hx => hg.same (hlt0 x hx)) (fun x hx => hsp x (List.mem_append_left _ hx))
      have hh1 := WideElems.Trod_stays (sp' := sp) laidOut (by kernel_rfl) (of_decide_eq_true (by kernel_rfl)) h1' (fun x hx => hg.same (hlt1 x hx)) (fun x hx => hsp x (List.mem_append_right _ hx))
      have := trodAll_cons_mk hh0 (trodAll_cons_mk hh1 (trodAll_cons_mk (shut_int Tryz.underlying3 wi) trodAll_mk0))
      simp only [List.append_nil] at this
      exact this) (fun _ _ => rfl) (by simp)
    hg (ok_one (by kernel_rfl) rfl (okWide_bool_mk Tryz.underlying4 _))⟩
end Go.Proofs.YtbajjfdkkffamaaGreatDoor.mapsBits
