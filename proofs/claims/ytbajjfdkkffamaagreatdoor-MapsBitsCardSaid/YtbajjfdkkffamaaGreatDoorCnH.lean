/- Calls, operations under guards, regions in the order of the text. -/
import Derived.Test.YtbajjfdkkffamaaGreatDoorCnG5
namespace Go.Cn
set_option linter.unusedVariables false
set_option linter.unusedSimpArgs false

/-- Deferred calls. -/
inductive DsR (ρ : Map) : List Deferred → List Deferred → Prop
  | nil : DsR ρ [] []
  | mark (b : Nat) (i : Img) (a a' : Array Value) {l l' : List Deferred} (h : ρ b = some i) (t : DsR ρ l l') : DsR ρ ({ target := .collected b, args := a } :: l) ({ target := .collected i.x, args := a' } :: l')
  | call (f : FuncId) (c c' a a' : Array Value) {l l' : List Deferred} (hc : VRs ρ c.toList c'.toList) (ha : VRs ρ a.toList a'.toList) (t : DsR ρ l l') :
      DsR ρ ({ target := .fn (.func f) c, args := a } :: l) ({ target := .fn (.func f) c', args := a' } :: l')
theorem DsR.mono {ρ ρ' : Map} (hle : ρ.le ρ') {l l' : List Deferred} (h : DsR ρ l l') : DsR ρ' l l' := by
  induction h with
  | nil => exact .nil
  | mark b i a a' h _ ih => exact .mark b i a a' (hle _ _ h) ih
  | call f c c' a a' hc ha _ ih => exact .call f c c' a a' (hc.mono hle) (ha.mono hle) ih

/-- The round in which a frame is. -/
def RR (ρ : Map) : Option Nat → Option Nat → Prop
  | none, none => True
  | some l, some l' => ∃ i, ρ l = some i ∧ l' = i.x
  | _, _ => False
theorem RR.mono {ρ ρ' : Map} (hle : ρ.le ρ') {l l' : Option Nat} (h : RR ρ l l') : RR ρ' l l' := by
  cases l <;> cases l' <;> first | trivial | exact h.elim | (obtain ⟨i, a, b⟩ := h; exact ⟨i, hle _ _ a, b⟩)
/-- A fence that lets all in. -/
structure Open (F : Fence) : Prop where
  fn : ∀ f, F.fn f
  depth : F.depth = none
  wide : F.plain = Fence.wide
theorem Open.round {F : Fence} (h : Open F) (l : Nat) : Open (F.inRound l) := ⟨h.fn, h.depth, by have := h.wide; exact this⟩
theorem open_wide : Open Fence.wide := ⟨fun _ => trivial, rfl, rfl⟩
theorem Open.eq {F : Fence} (h : Open F) : F = { Fence.wide with round := F.round } := by
  have := h.wide
  cases F
  simp only [Fence.plain] at this
  cases this
  rfl
theorem Open.callsIn {F : Fence} (h : Open F) {n : Nat} {P : Program} {f : FuncId} {args : Array Value} {w : World} {R : Ending → World → Prop} (hc : CallsIn Fence.wide n P f args w R) : CallsIn F n P f args w R := by
  rw [h.eq]; exact hc
theorem Open.roundIn {F : Fence} (h : Open F) {n l : Nat} {P : Program} {f : FuncId} {tmps : Array Value} {a b : Code} {w : World} {R : Ending → World → Prop} (hc : RoundIn Fence.wide n P l f tmps a b w R) : RoundIn F n P l f tmps a b w R := by
  rw [h.eq]; exact hc

/-- So the canonical run's frame stands to the machine's. -/
structure Here (w0 : Base) (ρ : Map) (c : Ctx) (st : St) (H : CH) (a : Act) (w : World) : Prop where
  rel : Rel w0 ρ H w
  tmps : VRs ρ st.t a.tmps.toList
  ds : DsR ρ st.ds a.defers
  len : st.t.length = c.n

section
variable (P : Program) (w0 : Base)
def Ret (ρ : Map) (v : Value) (H' : CH) : Ending → World → Prop := fun e w' => ∃ ρ' v', e = .returned v' ∧ ρ.le ρ' ∧ Rel w0 ρ' H' w' ∧ VR ρ' v v'
def CallOK (f : FuncId) (args : List Value) (H : CH) (v : Value) (H' : CH) : Prop :=
  ∀ ρ w args', Rel w0 ρ H w → VRs ρ args args'.toList → CallsIn Fence.wide 0 P f args' w (Ret w0 ρ v H')
def RoundOK (l : Nat) (args : List Value) (H : CH) (v : Value) (H' : CH) : Prop :=
  ∀ ρ w i args', Rel w0 ρ H w → VRs ρ args args'.toList → ρ l = some i → ∃ f tmps assign body, (Instr.yield i.x args').run P w = .ok (.round i.x f tmps assign body) w ∧
    RoundIn Fence.wide 0 P i.x f tmps assign body w (Ret w0 ρ v H')
/-- An operation: whatever comes behind it. -/
def OpOK (c : Ctx) (o : Oper) (st : St) (H : CH) (v : Value) (st' : St) (H' : CH) : Prop :=
  ∀ ρ a w F, Here w0 ρ c st H a w → Open F → RR ρ c.round F.round → ∀ (next : Act → World → Prop) (Q : Exit → Act → World → Prop),
    (∀ ρ' v' a1 w', ρ.le ρ' → VR ρ' v v' → Here w0 ρ' c st' H' a1 w' → a1.tmps = a.tmps → next (a1.put o.dst v') w') → o.wpIn F 0 P a w next Q
variable {P w0}
variable {O : Orc}

theorem okFn_some {f : FuncId} (h : okFn P f = true) : ∃ fn c, P.funcs[f]? = some fn ∧ fn.body = some c ∧ (fn.name == "runtime.NumGoroutine") = false := by
  unfold okFn at h
  split at h
  · rename_i fn hf
    simp only [Bool.and_eq_true, Bool.not_eq_true'] at h
    obtain ⟨c, hc⟩ := Option.isSome_iff_exists.1 h.1
    exact ⟨fn, c, hf, hc, h.2⟩
  · cases h
theorem run_callFunc {f : FuncId} (h : okFn P f = true) (args : Array Value) (w : World) : (callFunc f args).run P w = .ok (.enter f args) w := by
  obtain ⟨fn, c, h1, h2, h3⟩ := okFn_some h
  have h4 : ¬ fn.name = "runtime.NumGoroutine" := by simpa using h3
  simp [callFunc, h1, h2, h4]
theorem VRs.toArr {ρ : Map} {l : List Value} {a : Array Value} (h : VRs ρ l a.toList) : VRs ρ l a.toList := h
/-- What a function value is called for. -/
theorem callV_run (hC : ∀ f args H v H', O.call f args H = some (v, H') → CallOK P w0 f args H v H') (hR : ∀ l args H v H', O.round l args H = some (v, H') → RoundOK P w0 l args H v H')
    {fv fv' : Value} {args : List Value} {args' : Array Value} {H : CH} {v : Value} {H' : CH} {ρ : Map} {w : World} (h : Rel w0 ρ H w) (hf : VR ρ fv fv') (ha : VRs ρ args args'.toList) (hc : callV P O fv args H = some (v, H')) :
    (∃ f as, (do let d ← Deferred.ofValue fv' args'; invoke d.target d.args : Sem Next).run P w = .ok (.enter f as) w ∧ CallsIn Fence.wide 0 P f as w (Ret w0 ρ v H')) ∨
    (∃ l f tmps assign body, (do let d ← Deferred.ofValue fv' args'; invoke d.target d.args : Sem Next).run P w = .ok (.round l f tmps assign body) w ∧ RoundIn Fence.wide 0 P l f tmps assign body w (Ret w0 ρ v H')) := by
  unfold callV at hc
  split at hc
  · rename_i f fa fc
    split at hc
    · rename_i hok
      obtain ⟨a', c', rfl, r1, r2⟩ := hf.func_inv (by simp)
      refine .inl ⟨f, a' ++ args' ++ c', ?_, hC _ _ _ _ _ hc ρ w _ h (by simpa using (r1.append ha).append r2)⟩
      simp only [Deferred.ofValue, Sem.run_bind, Sem.run_pure, Result.andThen_ok, invoke]
      exact run_callFunc hok _ w
    · cases hc
  · rename_i t p f ptr fa fc
    split at hc
    · rename_i hok
      simp only [Bool.and_eq_true, Bool.not_eq_true'] at hok
      obtain ⟨⟨⟨hp, hvia⟩, hok⟩, hne⟩ := hok
      obtain ⟨a', c', rfl, r1, r2⟩ := hf.func_inv (by simp)
      have hall := r1.append ha
      refine .inl ⟨f, a' ++ args', ?_, hC _ _ _ _ _ hc ρ w _ h (by simpa using hall)⟩
      simp only [Deferred.ofValue, Sem.run_bind, Sem.run_pure, Result.andThen_ok, invoke]
      have hp' : p = #[] := by simpa using hp
      subst hp'
      have hlen := hall.1
      obtain ⟨x, hx⟩ : ∃ x, (a' ++ args')[0]? = some x := by
        have : 0 < (fa.toList ++ args).length := by
          rcases Nat.eq_zero_or_pos (fa.toList ++ args).length with e | e
          · rw [List.length_eq_zero_iff] at e; rw [e] at hne; simp at hne
          · exact e
        have h0 : 0 < (a' ++ args').size := by simp at hlen this ⊢; omega
        exact ⟨(a' ++ args')[0], by simp⟩
      rw [hx]
      have hrecv : (receiverVia t x #[] ptr).run P w = .ok x w := by
        unfold okVia at hvia
        simp only [receiverVia, follow, Sem.run_bind, Sem.run_pure, Result.andThen_ok, receiverAt]
        cases hu : P.underlying t with
        | none => simp [hu] at hvia
        | some d =>
          rw [run_und hu]
          simp only [Result.andThen_ok]
          cases d <;> cases ptr <;> simp_all [Place.get]
      simp only [Sem.run_bind, hrecv, Result.andThen_ok]
      have harr : #[x] ++ (a' ++ args').extract 1 (a' ++ args').size = a' ++ args' := by
        have h0 : 0 < (a' ++ args').size := (Array.getElem?_eq_some_iff.1 hx).1
        generalize a' ++ args' = z at *
        apply Array.toList_inj.1
        cases z with
        | mk l =>
          cases l with
          | nil => simp at h0
          | cons y l =>
            simp at hx
            subst hx
            simp [List.extract_eq_take_drop]
      rw [harr]
      exact run_callFunc hok _ w
    · cases hc
  · rename_i l fa fc
    split at hc
    · rename_i he
      obtain ⟨i, hi, rfl, rfl, rfl⟩ := hf.yield_inv
      obtain ⟨f, tmps, assign, body, r1, r2⟩ := hR _ _ _ _ _ hc ρ w i args' h ha hi
      refine .inr ⟨i.x, f, tmps, assign, body, ?_, r2⟩
      simp only [Deferred.ofValue, Sem.run_bind, Sem.run_pure, Result.andThen_ok, invoke]
      simpa using r1
    · cases hc
  · cases hc

theorem execOp_call (ρ : Operand → Value) (dst : Option Tmp) (f : Operand) (args : Array Operand) (ts : Array TypeId) (type : TypeId) (pos : String) (after : Array Edge) (g : Option (Nat × Bool)) :
    execOp ρ { dst, op := .call { callee := .value f, args, argTypes := ts }, type, pos, after, guard := g } = (do let d ← Deferred.ofValue (ρ f) (args.map ρ); invoke d.target d.args) := rfl
theorem Here.put {ρ : Map} {c : Ctx} {st : St} {H : CH} {a : Act} {w : World} (h : Here w0 ρ c st H a w) (d : Option Tmp) {v v' : Value} (hv : VR ρ v v') : Here w0 ρ c (st.put d v) H (a.put d v') w := by
  cases d with
  | none => exact h
  | some d => exact ⟨h.rel, by simpa [St.put, Act.put] using h.tmps.set d hv, h.ds, by simp [St.put, h.len]⟩
theorem Here.mono {ρ ρ' : Map} {c : Ctx} {st : St} {H H' : CH} {a : Act} {w w' : World} (h : Here w0 ρ c st H a w) (hle : ρ.le ρ') (hr : Rel w0 ρ' H' w') : Here w0 ρ' c st H' a w' :=
  ⟨hr, h.tmps.mono hle, h.ds.mono hle, h.len⟩
theorem wpIn_of_run {F : Fence} {o : Oper} {a : Act} {w w' : World} {next : Act → World → Prop} {Q : Exit → Act → World → Prop} {nx : Next} {v' : Value} (hF : Open F) (hnd : ∀ c, o.op ≠ .defer c)
    (hr : (execOp a.eval o).run P w = .ok nx w') (hx : nx = .value v' ∨ (nx = .skip ∧ v' = undef)) (hn : next (a.put o.dst v') w') : o.wpIn F 0 P a w next Q := by
  refine ⟨fun f _ => hF.fn f, ?_⟩
  rw [Oper.semAt_eq _ _ _ hnd, hr]
  rcases hx with rfl | ⟨rfl, rfl⟩
  · exact hn
  · exact hn
theorem iop_ok (hC : ∀ f args H v H', O.call f args H = some (v, H') → CallOK P w0 f args H v H') (hR : ∀ l args H v H', O.round l args H = some (v, H') → RoundOK P w0 l args H v H')
    {c : Ctx} {o : Oper} {st : St} {H : CH} {R : Type} {K : Value → St → CH → Option R} {r : R} (h : iop P O c o st H K = some r) : ∃ v st' H', K v st' H' = some r ∧ st'.t = st.t ∧ OpOK P w0 c o st H v st' H' := by
  unfold iop at h
  split at h
  · -- pick
    rename_i x p q hop
    simp only [Option.bind_eq_some_iff] at h
    obtain ⟨b, hb, h⟩ := h
    have run : ∀ ρ a w, Here w0 ρ c st H a w → (execOp a.eval o).run P w = .ok (.value (if b then a.eval p else a.eval q)) w := fun ρ a w hh => by
      have := (ev_rel hh.rel.glob hh.tmps x).asB hb
      simp [execOp, hop, this, asBool]
    have hnd : ∀ c, o.op ≠ .defer c := fun c e => by rw [hop] at e; cases e
    refine ⟨_, st, H, h, rfl, fun ρ a w F hh hF hr next Q hn => ?_⟩
    refine wpIn_of_run hF hnd (run ρ a w hh) (.inl rfl) (hn ρ _ a w ρ.le_refl ?_ hh rfl)
    cases b with
    | true => exact ev_rel hh.rel.glob hh.tmps p
    | false => exact ev_rel hh.rel.glob hh.tmps q
  · -- defer
    rename_i f args ts hop
    split at h
    · cases h
    · rename_i hrd
      split at h
      · rename_i g fa fc hf
        split at h
        · rename_i hok
          refine ⟨_, _, H, h, rfl, fun ρ a w F hh hF hr next Q hn => ?_⟩
          have hro : F.round = none := by
            cases hcr : c.round with
            | some l => rw [hcr] at hrd; simp at hrd
            | none => rw [hcr] at hr; cases hfr : F.round with | none => rfl | some l => rw [hfr] at hr; exact hr.elim
          have hv := ev_rel hh.rel.glob hh.tmps f
          rw [hf] at hv
          obtain ⟨a', c', e, r1, r2⟩ := hv.func_inv (by simp)
          refine ⟨fun f _ => hF.fn f, ?_⟩
          rw [hro]
          have hrun : (Oper.semAt none a.eval o).run P w = .ok (.defer { target := .fn (.func g) c', args := a' ++ args.map a.eval }) w := by
            obtain ⟨dst, op, type, pos, after, guard⟩ := o
            simp only at hop; subst hop
            simp [Oper.semAt, execOp, resolve, e, Deferred.ofValue]
          rw [hrun]
          refine hn ρ undef { a with defers := { target := .fn (.func g) c', args := a' ++ args.map a.eval } :: a.defers } w ρ.le_refl (.any _) ⟨hh.rel, hh.tmps, ?_, hh.len⟩ rfl
          exact .call g fc c' _ _ r2 (by simpa using r1.append (args_rel hh.rel.glob hh.tmps args.toList)) hh.ds
        · cases h
      · cases h
  · rename_i op hp hd
    have hnd : ∀ c, o.op ≠ .defer c := by
      intro cc e
      obtain ⟨callee, args, ts⟩ := cc
      cases callee with
      | value f => exact hd f args ts e
      | invoke r m =>
        rw [e] at h
        simp only [pureOf, readOf, effOf] at h
        cases h
      | builtin b =>
        rw [e] at h
        simp only [pureOf, readOf, effOf] at h
        cases h
    split at h
    · -- pure
      rename_i x hx
      simp only [Option.bind_eq_some_iff] at h
      obtain ⟨v, hv, h⟩ := h
      subst hv
      refine ⟨v, st, H, h, rfl, fun ρ a w F hh hF hr next Q hn => ?_⟩
      obtain ⟨v', r1, vr⟩ := pure_run (w := w) hh.rel.glob hh.tmps o hx
      exact wpIn_of_run hF hnd r1 (.inl rfl) (hn ρ _ a w ρ.le_refl vr hh rfl)
    · split at h
      · -- read
        rename_i hnp x hx
        simp only [Option.bind_eq_some_iff] at h
        obtain ⟨v, hv, h⟩ := h
        refine ⟨v, st, H, h, rfl, fun ρ a w F hh hF hr next Q hn => ?_⟩
        obtain ⟨v', r1, vr⟩ := read_run hh.rel hh.tmps o hx hv
        exact wpIn_of_run hF hnd r1 (.inl rfl) (hn ρ _ a w ρ.le_refl vr hh rfl)
      · rename_i hnp hnr
        simp only [Option.bind_eq_some_iff] at h
        obtain ⟨⟨v, H'⟩, hv, h⟩ := h
        refine ⟨v, st, H', h, rfl, fun ρ a w F hh hF hr next Q hn => ?_⟩
        by_cases hcall : isCall o.op = true
        · -- a call
          obtain ⟨dst, op, type, pos, after, guard⟩ := o
          simp only at hcall hv
          have hop : ∃ f args ts, op = .call { callee := .value f, args, argTypes := ts } := by
            unfold isCall at hcall
            split at hcall
            · exact ⟨_, _, _, rfl⟩
            · cases hcall
          obtain ⟨f, args, ts, rfl⟩ := hop
          simp only [effOf] at hv
          have hcv := callV_run hC hR hh.rel (ev_rel hh.rel.glob hh.tmps f) (args' := args.map a.eval) (by simpa using args_rel hh.rel.glob hh.tmps args.toList) hv
          refine ⟨fun f _ => hF.fn f, ?_⟩
          rw [Oper.semAt_eq _ _ _ hnd, execOp_call]
          have fin : ∀ e w', Ret w0 ρ v H' e w' → (match e with
              | .returned u => next (a.put dst u) w'
              | .panicked chain => Q (.panic chain) a w'
              | .outgrown => LetsOut Q) := fun e w' ⟨ρ', v', e1, le, rel, vr⟩ => by
            subst e1
            exact hn ρ' v' a w' le vr (hh.mono le rel) rfl
          rcases hcv with ⟨f', as, r1, r2⟩ | ⟨l, f', tmps, assign, body, r1, r2⟩
          · rw [r1]
            refine ⟨fun hd => ?_, (hF.callsIn r2).mono fun e w' he => ?_⟩
            · rw [hF.depth] at hd; cases hd
            · have := fin e w' he; cases e <;> exact this
          · rw [r1]
            refine ⟨fun hd => ?_, (hF.roundIn r2).mono fun e w' he => ?_⟩
            · rw [hF.depth] at hd; cases hd
            · have := fin e w' he; cases e <;> exact this
        · obtain ⟨nx, w', ρ', v', r1, r2, le, rel, vr⟩ := eff_run (P := P) (O := O) hh.rel hh.tmps o (by simpa using hcall) hv
          exact wpIn_of_run hF hnd r1 r2 (hn ρ' v' a w' le vr (hh.mono le rel) rfl)

/-! ### Guards -/
theorem VRs.fix {ρ : Map} {l l' : List Value} (h : VRs ρ l l') {i : Nat} {v v' : Value} (hv : l'.getD i undef = v') (hr : VR ρ v v') : VRs ρ (l.set i v) l' := by
  refine ⟨by simp [h.1], fun k hk => ?_⟩
  have hk' : k < l.length := by simpa using hk
  simp only [List.getD_eq_getElem?_getD, List.getElem?_set] at hv ⊢
  by_cases hik : i = k
  · subst hik; rw [if_pos rfl, if_pos hk', hv]; exact hr
  · rw [if_neg hik]; exact h.2 k hk'
theorem Here.fix {ρ : Map} {c : Ctx} {st : St} {H : CH} {a : Act} {w : World} (h : Here w0 ρ c st H a w) {d : Nat} {b : Bool} (hb : asB (st.t.getD d undef) = some b) :
    a.tmps[d]? = some (.bool b) ∧ Here w0 ρ c { st with t := st.t.set d (.bool b) } H a w := by
  have h1 := (h.tmps.get d).asB hb
  refine ⟨?_, h.rel, h.tmps.fix h1 (.bool b), h.ds, by simp [h.len]⟩
  rw [List.getD_eq_getElem?_getD, Array.getElem?_toList] at h1
  cases hx : a.tmps[d]? with
  | none => rw [hx] at h1; simp [undef] at h1
  | some u => rw [hx] at h1; simp at h1; rw [h1]
/-- An operation of a region, its guard asked first. -/
def GuardOK (P : Program) (w0 : Base) (c : Ctx) (ops : Array Oper) (o : Oper) (st : St) (H : CH) (v : Value) (st' : St) (H' : CH) : Prop :=
  ∀ ρ a w F i, Here w0 ρ c st H a w → Open F → RR ρ c.round F.round → ops[i]? = some o → ∀ (next : Act → World → Prop) (Q : Exit → Act → World → Prop),
    (∀ ρ' v' a1 w', ρ.le ρ' → VR ρ' v v' → Here w0 ρ' c st' H' a1 w' → a1.tmps = a.tmps → next (a1.put o.dst v') w') → wpOpIn F 0 P ops Q i next a w
theorem guard_none {c : Ctx} {ops : Array Oper} {o : Oper} {st : St} {H : CH} {v : Value} {st' : St} {H' : CH} (hg : o.guard = none) (h : OpOK P w0 c o st H v st' H') : GuardOK P w0 c ops o st H v st' H' := by
  intro ρ a w F i hh hF hr hi next Q hn
  unfold wpOpIn
  have : Region.wanted o (yielded ops a.tmps) = true := by simp [Region.wanted, hg]
  simp only [hi, this, if_true]
  exact h ρ a w F hh hF hr next Q hn
theorem guard_some {c : Ctx} {ops : Array Oper} {o : Oper} {st : St} {H : CH} {v : Value} {st' : St} {H' : CH} {j d : Nat} {want b : Bool} (hg : o.guard = some (j, want)) (hd : (ops[j]?).bind (·.dst) = some d)
    (hb : asB (st.t.getD d undef) = some b) (ht : b = want → OpOK P w0 c o st H v st' H') (hf : b ≠ want → v = undef ∧ st' = st ∧ H' = H) :
    GuardOK P w0 c ops o st H v st' H' := by
  intro ρ a w F i hh hF hr hi next Q hn
  obtain ⟨h1, _⟩ := hh.fix hb
  unfold wpOpIn
  have hy : yielded ops a.tmps j = some b := by simp [yielded, hd, h1]
  have hw : Region.wanted o (yielded ops a.tmps) = (b == want) := by simp [Region.wanted, hg, hy]
  simp only [hi, hw]
  by_cases hbw : b = want
  · subst hbw
    simp only [beq_self_eq_true, if_true]
    exact ht rfl ρ a w F hh hF hr next Q hn
  · have : (b == want) = false := by simpa using hbw
    simp only [this, Bool.false_eq_true, if_false]
    obtain ⟨rfl, rfl, rfl⟩ := hf hbw
    exact ⟨fun f _ => hF.fn f, hn ρ undef a w ρ.le_refl (.any _) hh rfl⟩
theorem gdo_yes {α : Type} (b : Bool) (x d : Option α) : gdo b b x d = x := by cases b <;> rfl
theorem gdo_no {α : Type} {b want : Bool} (h : b ≠ want) (x d : Option α) : gdo b want x d = d := by cases b <;> cases want <;> first | rfl | exact absurd rfl h
theorem iopG_yes' {b : Bool} {c : Ctx} {o : Oper} {st : St} {H : CH} {R : Type} {K : Value → St → CH → Option R} (hnd : ∀ c, o.op ≠ .defer c) : iopG P O b b c o st H K = iop P O c o st H K := by
  unfold iopG
  split
  · rename_i x p q hop
    rw [gdo_yes]
    unfold iop
    rw [hop]
    simp only
    cases asB (ev st.t x) <;> rfl
  · rename_i e; exact absurd e (hnd _)
  · rename_i op hp hd
    have e : iop P O c o st H K = (match pureOf P st.t o.op with
        | some x => x.bind fun v => K v st H
        | none => match readOf P st.t o.op with
          | some x => (x H).bind fun v => K v st H
          | none => (effOf P O st.t o.op H).bind fun r => K r.1 st r.2) := by
      unfold iop
      split
      · rename_i e; exact absurd e (hp _ _ _)
      · rename_i e; exact absurd e (hd _)
      · rfl
    rw [e]
    cases hx : pureOf P st.t o.op with
    | some x => simp only [gdo_yes]
    | none =>
      cases hy : readOf P st.t o.op with
      | some y => simp only [gdo_yes]
      | none => simp only [gdo_yes]
theorem iopG_no' {b want : Bool} (hb : b ≠ want) {c : Ctx} {o : Oper} {st : St} {H : CH} {R : Type} {K : Value → St → CH → Option R} (hnd : ∀ c, o.op ≠ .defer c) : iopG P O b want c o st H K = K undef st H := by
  unfold iopG
  split
  · rw [gdo_no hb]; rfl
  · rename_i e; exact absurd e (hnd _)
  · split
    · rw [gdo_no hb]; rfl
    · split
      · rw [gdo_no hb]; rfl
      · rw [gdo_no hb]; rfl
theorem iopG_nd {b want : Bool} {c : Ctx} {o : Oper} {st : St} {H : CH} {R : Type} {K : Value → St → CH → Option R} {r : R} (h : iopG P O b want c o st H K = some r) : ∀ c, o.op ≠ .defer c := by
  intro d e
  unfold iopG at h
  rw [e] at h
  cases h
theorem iopG_yes {b : Bool} {c : Ctx} {o : Oper} {st : St} {H : CH} {R : Type} {K : Value → St → CH → Option R} {r : R} (h : iopG P O b b c o st H K = some r) : iop P O c o st H K = some r := by
  rw [iopG_yes' (iopG_nd h)] at h; exact h
theorem iopG_no {b want : Bool} (hb : b ≠ want) {c : Ctx} {o : Oper} {st : St} {H : CH} {R : Type} {K : Value → St → CH → Option R} {r : R} (h : iopG P O b want c o st H K = some r) : K undef st H = some r := by
  rw [iopG_no' hb (iopG_nd h)] at h; exact h
theorem asB_inv {v : Value} {b : Bool} (h : asB v = some b) : v = .bool b := by
  cases v <;> simp [asB] at h
  rw [h]
theorem fix_id {t : List Value} {d : Nat} {b : Bool} (h : asB (t.getD d undef) = some b) : t.set d (.bool b) = t := by
  have h := asB_inv h
  rw [List.getD_eq_getElem?_getD] at h
  cases hd : t[d]? with
  | none => rw [hd] at h; simp [undef] at h
  | some x =>
    rw [hd] at h; simp at h; subst h
    obtain ⟨hl, he⟩ := List.getElem?_eq_some_iff.1 hd
    rw [← he]; exact List.set_getElem_self hl
theorem put_len (st : St) (d : Option Tmp) (v : Value) : (st.put d v).t.length = st.t.length := by cases d <;> simp [St.put]
theorem put_ne (st : St) (v : Value) {d : Option Tmp} {x : Nat} (h : d ≠ some x) : (st.put d v).t.getD x undef = st.t.getD x undef := by
  cases d with
  | none => rfl
  | some d =>
    have : d ≠ x := fun e => h (by rw [e])
    simp [St.put, List.getD_eq_getElem?_getD, List.getElem?_set, this]
theorem iguard_ok (hC : ∀ f args H v H', O.call f args H = some (v, H') → CallOK P w0 f args H v H') (hR : ∀ l args H v H', O.round l args H = some (v, H') → RoundOK P w0 l args H v H')
    {c : Ctx} {ops : Array Oper} {o : Oper} {st : St} {H : CH} {R : Type} {K : Value → St → CH → Option R} {r : R} (h : iguard P O c ops o st H K = some r) : ∃ v st' H', K v st' H' = some r ∧ st'.t = st.t ∧ GuardOK P w0 c ops o st H v st' H' := by
  unfold iguard at h
  split at h
  · rename_i hg
    rw [iopE_eq] at h
    obtain ⟨v, st', H', hk, ht, hok⟩ := iop_ok hC hR h
    exact ⟨v, st', H', hk, ht, guard_none hg hok⟩
  · rename_i j want hg
    split at h
    · cases h
    · rename_i d hd
      simp only [Option.bind_eq_some_iff] at h
      obtain ⟨b, hb, h⟩ := h
      by_cases hbw : b = want
      · subst hbw
        obtain ⟨v, st', H', hk, ht, hok⟩ := iop_ok hC hR (iopG_yes h)
        exact ⟨v, st', H', hk, ht, guard_some hg hd hb (fun _ => hok) (fun e => absurd rfl e)⟩
      · exact ⟨undef, st, H, iopG_no hbw h, rfl, guard_some hg hd hb (fun e => absurd e hbw) (fun _ => ⟨rfl, rfl, rfl⟩)⟩

/-! ### A region in the order of the text -/
/-- The machine's slots are as they were, but for some. -/
def Sm (W : List Nat) (a a' : Act) : Prop := ∀ x, x ∉ W → a'.tmps.getD x undef = a.tmps.getD x undef
theorem Sm.refl (W : List Nat) (a : Act) : Sm W a a := fun _ _ => rfl
theorem Sm.trans {W : List Nat} {a b c : Act} (h : Sm W a b) (k : Sm W b c) : Sm W a c := fun x hx => (k x hx).trans (h x hx)
theorem Sm.mono {W W' : List Nat} {a b : Act} (h : Sm W a b) (hw : ∀ x, x ∈ W → x ∈ W') : Sm W' a b := fun x hx => h x fun hm => hx (hw x hm)
theorem Sm.of_eq {W : List Nat} {a b : Act} (h : b.tmps = a.tmps) : Sm W a b := fun x _ => by rw [h]
theorem Sm.put {W : List Nat} (a : Act) (d : Option Tmp) (v : Value) (h : ∀ x, d = some x → x ∈ W) : Sm W a (a.put d v) := fun x hx => by
  cases d with
  | none => rfl
  | some d =>
    have hne : d ≠ x := fun e => hx (h x (by rw [e]))
    simp only [Act.put]
    rw [arr_getD, arr_getD, Array.toList_setIfInBounds]
    simp [List.getD_eq_getElem?_getD, List.getElem?_set, hne]
def OpsOK (P : Program) (w0 : Base) (c : Ctx) (ops : Array Oper) (l : List Oper) (st : St) (H : CH) (st' : St) (H' : CH) : Prop :=
  ∀ ρ a w F (k : Nat), Here w0 ρ c st H a w → Open F → RR ρ c.round F.round → (∀ j o, l[j]? = some o → ops[k + j]? = some o) → ∀ (Q : Exit → Act → World → Prop),
    (∀ ρ' a' w', ρ.le ρ' → Here w0 ρ' c st' H' a' w' → Sm (dsts l) a a' → Q .normal a' w') → wpOpsIn F 0 P ops Q ((List.range l.length).map (k + ·)) a w
theorem iops_ok (hC : ∀ f args H v H', O.call f args H = some (v, H') → CallOK P w0 f args H v H') (hR : ∀ l args H v H', O.round l args H = some (v, H') → RoundOK P w0 l args H v H')
    {c : Ctx} {ops : Array Oper} : ∀ (l : List Oper) (st : St) (H : CH) {R : Type} (K : St → CH → Option R) (r : R), iops P O c ops l st H K = some r → ∃ st' H', K st' H' = some r ∧ (∀ x, x ∉ dsts l → st'.t.getD x undef = st.t.getD x undef) ∧ st'.t.length = st.t.length ∧ OpsOK P w0 c ops l st H st' H'
  | [], st, H, R, K, r, h => ⟨st, H, h, fun _ _ => rfl, rfl, fun ρ a w F k hh hF hr hl Q hq => hq ρ a w ρ.le_refl hh (Sm.refl _ _)⟩
  | o :: l, st, H, R, K, r, h => by
    simp only [iops, St.putK_eq] at h
    obtain ⟨v, st1, H1, h1, ht1, ok1⟩ := iguard_ok hC hR h
    obtain ⟨st', H', h2, sl, ln, ok2⟩ := iops_ok hC hR l _ _ K r h1
    refine ⟨st', H', h2, fun x hx => ?_, by rw [ln, put_len, ht1], fun ρ a w F k hh hF hr hl Q hq => ?_⟩
    · have hx1 : x ∉ dsts l := fun hm => hx (by unfold dsts at hm ⊢; rw [List.filterMap_cons]; split <;> simp_all)
      have hx2 : o.dst ≠ some x := fun e => hx (by unfold dsts; rw [List.filterMap_cons]; simp [e])
      rw [sl x hx1, put_ne _ _ hx2, ht1]
    have e : (List.range (o :: l).length).map (k + ·) = k :: (List.range l.length).map (k + 1 + ·) := by
      rw [List.length_cons, List.range_succ_eq_map, List.map_cons, List.map_map]
      congr 1
      apply List.map_congr_left
      intro x _
      simp only [Function.comp]; omega
    rw [e, wpOpsIn_cons]
    have hk : ops[k]? = some o := hl 0 o rfl
    refine ok1 ρ a w F k hh hF hr hk _ Q fun ρ' v' a1 w' le vr hh1 ht => ?_
    refine ok2 ρ' _ w' F (k + 1) (hh1.put o.dst vr) hF (hr.mono le) (fun j p hj => ?_) Q (fun ρ'' a' w'' le' hh' sm => hq ρ'' a' w'' (Map.le_trans le le') hh' ((Sm.of_eq ht).trans ((Sm.put a1 o.dst v' (fun x e => by unfold dsts; rw [List.filterMap_cons]; simp [e])).trans (sm.mono fun x hx => by unfold dsts at hx ⊢; rw [List.filterMap_cons]; split <;> simp_all))))
    have := hl (j + 1) p (by simpa using hj)
    rw [show k + 1 + j = k + (j + 1) by omega]; exact this
end
end Go.Cn
