/-
  Numbers of both widths are read from the texts of their bits, for every input. Condition: the listed tables and sentinels read as the program's text lays them (tied by the card).
-/
import Derived.Test.YtnjcmonlfngjcaaDoorLawBits
import Derived.Test.YtnjcmonlfngjcaaDoorRows
import Derived.Test.YtnjcmonlfngjcaaDoorPost
import Derived.Test.YtnjcmonlfngjcaaDoorCards
import Derived.Test.YtnjcmonlfngjcaaDoorTie
import Derived.Stop.Joined
import Derived.Shelf.Vars
import Derived.SevenTiedAt
import Derived.Lib.SmallJoins
import Derived.HandedShaped
import Derived.Lay
import Derived.ChangeSlices
namespace Go.Proofs.YtnjcmonlfngjcaaDoor
open Go Go.RowKit Go.WideShapes Go.ChangeShapes Go.Joins

/-- The wrap that hands on both what is laid and the world's shape. -/
theorem returnsInHanded_of_change_and_shaped {H : Type} {enc : TypeId × Value → H} {a : Assume} {C : Checked} {os : Os} {f : FuncId} {fn : Func} {s : ChangeSpec} {conds : List PathCond} {apart fresh handsOn again : Bool} {X : World → Array Value → Prop}
    (hX : ∀ (w w' : World) (args : Array Value), w.heap = w'.heap → X w args → X w' args)
    (own : ownKnob C.prog.godebug = none) (started : os.Started) (noInit : C.prog.inits.idxOf? f = none) (hfn : C.prog.funcs[f]? = some fn)
    (witness : ∃ (w : World) (tape : Tape) (i : Input), w.os = os ∧ (w.forCall tape i).Shaped C.prog ∧ i.vars = [] ∧ Input.okWide C.prog (w.forCall tape i) .any w.heap.size f i ∧
      ((s.pre enc C.prog fn conds apart (w.forCall tape i).memory i.args ∧ X (w.forCall tape i).memory i.args) ∧ sizedMet enc C.prog fn (OpenSpec.ofChange s) apart (w.forCall tape i).memory i.args) ∧ a.holds C.prog (lone (Frame.enter C.prog f i.args .normal) [] (w.forCall tape i)))
    (contract : ∀ (W : World) (base : Nat) (args : Array Value) (ds gs : List (DataW H)) (before : List MemPlace),
      (∀ (j : Nat) t v, fn.params[j]? = some t → args[j]? = some v → Value.okWide C.prog W .any base t v) →
      DataW.Whole enc C.prog fn.params.toList s.vars apart W args.toList ds gs before → W.ShapedOpen C.prog → X W args →
      Calls C.prog f args W fun e W' => ∃ v, e = .returned v ∧ s.post enc C.prog fn apart fresh handsOn again W args v W') :
    ReturnsInHanded a C os f .any (fun w args => (s.pre enc C.prog fn conds apart w args ∧ X w args) ∧ sizedMet enc C.prog fn (OpenSpec.ofChange s) apart w args) (s.post enc C.prog fn apart fresh handsOn again) := by
  refine returnsInHanded_of_calls own started noInit witness ?_
  intro w tape i _ hsh _ hok hpre _
  obtain ⟨_, _, _, fn', hfn', _, _, _, _, hval⟩ := hok
  have e : fn' = fn := Option.some.inj (hfn'.symm.trans hfn)
  subst e
  obtain ⟨⟨⟨ds, gs, before, hw, _⟩, hx⟩, _⟩ := hpre
  have hw' := DataW.Whole.of_heap (w' := w.forCall tape i) (by rfl) hw
  refine (contract (w.forCall tape i) w.heap.size i.args ds gs before hval hw' hsh (hX _ _ _ (by rfl) hx)).mono fun e W' ⟨v, he, hp⟩ => ?_
  subst he
  exact ChangeSpec.post_blind hp

theorem gTab : Tryd.prog.globalNamed "math/bits.deBruijn64tab" = some 6 := by kernel_rfl
theorem tTab : (Tryd.prog.globals[6]?).map (·.type) = some 125 := by kernel_rfl
theorem gSyntax : Tryd.prog.globalNamed "strconv.ErrSyntax" = some 2 := by kernel_rfl
theorem tSyntax : (Tryd.prog.globals[2]?).map (·.type) = some 63 := by kernel_rfl

def tzTab : List Int := [0, 1, 56, 2, 57, 49, 28, 3, 61, 58, 42, 50, 38, 29, 17, 4, 62, 47, 59, 36, 45, 43, 51, 22, 53, 39, 33, 30, 24, 18, 12, 5, 63, 55, 48, 27, 60, 41, 37, 16, 46, 35, 44, 21, 52, 32, 23, 11, 54, 26, 40, 15, 34, 20, 31, 10, 25, 14, 19, 9, 13, 8, 7, 6]

set_option maxRecDepth 100000 in
theorem tab_of_laid {W : World} {l : List (String × DataW Unit)} (hl : (l.filter fun x => x.1 == "math/bits.deBruijn64tab") = [("math/bits.deBruijn64tab", Lib.tabData .u8 tzTab)]) (h : laidMetH Tryd.prog l W) : Lib.TabIs Tryd.prog W "math/bits.deBruijn64tab" .u8 tzTab := by
  have h := h.filter fun x => x.1 == "math/bits.deBruijn64tab"
  rw [hl, MakeChecks.laidMetH_plain _ _ _ (by kernel_rfl)] at h
  exact Lib.tabIs_of_head gTab tTab Tryd.underlying125 Tryd.underlying5 (by kernel_rfl) (by kernel_rfl) h

set_option maxRecDepth 100000 in
/-- A variable of the type error that reads as an interface value holds one. -/
theorem iface_of_laid {W : World} {n nm : String} {d : DataW Unit} {g : Nat} (hg : Tryd.prog.globalNamed n = some g) (ht : (Tryd.prog.globals[g]?).map (·.type) = some 63)
    (h : laidMet Tryd.prog [(n, .iface nm d)] W) : ∃ ev, W.cell? ⟨g, 0, none⟩ = some ev ∧ (ev = .nilIface ∨ ∃ te pe, ev = .iface te pe) := by
  obtain ⟨ps, ⟨g0, t0, cs0, f0, p0, q0, hg0, ht0, hv0, hd0, _, e0⟩, _, _⟩ := h
  obtain rfl := Option.some.inj (hg.symm.trans hg0)
  obtain rfl := Option.some.inj (ht.symm.trans ht0)
  have hcell := World.var?_cell hg hv0 0
  cases f0 with
  | zero => simp [DataW.trod] at hd0
  | succ f0 =>
    unfold DataW.trod at hd0
    rw [Tryd.underlying63] at hd0
    have h0 : cs0[0]? = cs0.toList[0]? := by simp
    rw [h0] at hcell
    generalize cs0.toList = cs at hd0 hcell
    match cs with
    | [] => simp at hd0
    | _ :: _ :: _ => simp at hd0
    | [.nilIface] => exact ⟨_, hcell, .inl rfl⟩
    | [.iface u v] => exact ⟨_, hcell, .inr ⟨u, v, rfl⟩⟩
    | [.bool _] | [.int _ _] | [.float _ _] | [.complex _ _ _] | [.string _] | [.agg _] | [.tuple _] | [.pointer _] | [.slice _ _ _] | [.map _] | [.nilFunc] | [.func _ _ _] | [.chan _] => simp at hd0

set_option maxRecDepth 100000 in
theorem env_of {W : World} (hsh : W.ShapedOpen Tryd.prog) (h : laidMetH Tryd.prog Rows.fnBitsRow.laid W) : BEnv W := by
  have hS := h.filter fun x => x.1 == "strconv.ErrSyntax"
  rw [show (Rows.fnBitsRow.laid.filter fun x => x.1 == "strconv.ErrSyntax") = [("strconv.ErrSyntax", Rows.laid_strconv_ErrSyntax)] from rfl, MakeChecks.laidMetH_plain _ _ _ (by kernel_rfl)] at hS
  have hT := tab_of_laid (l := Rows.fnBitsRow.laid) rfl h
  refine ⟨?_, iface_of_laid gSyntax tSyntax hS, cell_of_shapedOpen_int (zero := #[.int .i64 0]) (t := 3) hsh (of_decide_eq_true (by kernel_rfl)) (by kernel_rfl) rfl (by kernel_rfl) (by kernel_rfl) Tryd.underlying3⟩
  have := World.var?_cell gTab hT 15
  rw [this]
  rfl

theorem cByte : Tryd.prog.cellsOf 5 = 1 := by kernel_rfl
set_option maxRecDepth 100000 in
/-- A parameter of bytes. -/
theorem bytes_of {H : Type} {enc : TypeId × Value → H} {W : World} {v : Value} {d : DataW H} {p : List MemPlace} {base : Nat} (hval : Value.okWide Tryd.prog W .any base 22 v) (h : DataW.Trod enc Tryd.prog W 0 (fun _ => true) true 22 v d p) : ∃ n, BytesIn W v n := by
  obtain ⟨fuel, hf⟩ := h
  obtain ⟨a, len, cap, rfl⟩ := okWide_slice Tryd.underlying22 hval
  rcases open_ints Tryd.underlying22 Tryd.underlying5 cByte hf with ⟨hc, _⟩ | ⟨a', len', cap', zs, hc, _, hl, _, hz, _, hcell, hwf⟩
  · simp [Value.cells] at hc
    obtain ⟨rfl, rfl, rfl⟩ := hc
    exact ⟨0, .inl ⟨rfl, rfl⟩⟩
  · simp [Value.cells] at hc
    obtain ⟨rfl, rfl, rfl⟩ := hc
    simp only [if_true] at hz
    obtain ⟨b, o, spot⟩ := a'
    have hspot : spot = none := by
      have hv := hval
      simp only [Value.okWide, Tryd.underlying22, Cell.okWide, Cell.ok] at hv
      exact hv.2.2.2.1
    subst hspot
    refine ⟨len, .inr ⟨b, o, cap, rfl, fun j hj => ?_⟩⟩
    have hjz : j < zs.length := by omega
    have hc := hcell j hjz
    have hget : zs.getD j 0 = zs[j] := by simp [List.getD, List.getElem?_eq_getElem hjz]
    have hw := hwf zs[j] (List.getElem_mem hjz)
    rw [hget] at hc
    simp [Lit.wf, IntKind.min, IntKind.max, IntKind.signed, IntKind.bits] at hw
    have ea : (⟨b, o, none⟩ : Addr).add j = ⟨b, o + j, none⟩ := by simp [Addr.add]
    rw [ea] at hc
    refine ⟨zs[j].toNat, by omega, ?_⟩
    rw [hc]
    congr 2
    omega

set_option maxRecDepth 100000 in
theorem bits_lifted (os : Os) (started : os.Started) (H : Type) (enc : TypeId × Value → H) :
    ReturnsInHanded {} Tryd.checked os 3 .any (fun w args => (Rows.fnBitsSpec.pre enc Tryd.prog Tryd.f3 [] false w args ∧ laidMetH Tryd.prog Rows.fnBitsRow.laid w) ∧ sizedMet enc Tryd.prog Tryd.f3 (OpenSpec.ofChange Rows.fnBitsSpec) false w args)
      (Rows.fnBitsSpec.post enc Tryd.prog Tryd.f3 false true false false) := by
  refine returnsInHanded_of_change_and_shaped (C := Tryd.checked) (X := fun w _ => laidMetH Tryd.prog Rows.fnBitsRow.laid w) (fun _ _ _ hh h => h.of_heap hh) Tryd.own started (by kernel_rfl) Tryd.func3
    (ChangeSpec.witness_shaped (enc := enc) (C := Tryd.checked) (os := os) (X := fun w _ => laidMetH Tryd.prog Rows.fnBitsRow.laid w) false (World.laidAll Tryd.prog os Rows.fnBitsRow.laid) #[.slice none 0 0, .slice none 0 0] 8 (World.laidAll_os _ _ _)
      (World.shaped_of_ZipB (by kernel_rfl) (by kernel_rfl)) (by kernel_rfl) (by kernel_rfl) (by kernel_rfl)
      (by rw [MakeChecks.laidMetH_plain _ _ _ (by kernel_rfl)]; exact laidMet_laidAll _ (by kernel_rfl) (by kernel_rfl))) ?_
  intro W base args ds gs before hval0 hW hsh hL
  have hval : ∀ (j : Nat) t v, Tryd.f3.params[j]? = some t → args[j]? = some v → Value.okWide Tryd.prog W .any base t v := hval0
  have hW' := hW
  obtain ⟨p, q, hA0, hV, rfl, hfz, hnd⟩ := hW
  have hA : DataW.TrodAll enc Tryd.prog W 0 (fun _ => true) true Tryd.f3.params.toList args.toList ds p := hA0
  rw [Tryd.params3] at hA hval
  obtain ⟨v0, v1, d0, d1, p0, p1, rfl, rfl, rfl, h0, h1⟩ := trodAll_two hA
  have hgs : gs = [] := by
    cases gs with
    | nil => rfl
    | cons x r => cases hV
  subst hgs
  obtain ⟨n1, hb1⟩ := bytes_of (base := base) (hval 0 22 v0 rfl rfl) h0
  obtain ⟨n2, hb2⟩ := bytes_of (base := base) (hval 1 22 v1 rfl rfl) h1
  refine (lawBits_any n1 n2 v0 v1 W hb1 hb2 (Lib.hid (env_of hsh hL))).mono fun e W' ⟨he, hb⟩ => ?_
  subst he
  exact ⟨_, rfl, post_true Tryd.laidOut hW' (by kernel_rfl) (by kernel_rfl) hb rfl (tb := 4) rfl Tryd.underlying4⟩

theorem bits_holds : Rows.FnBitsSaid :=
  OpenClaim.holds_of_wide 3 Tryd.f3 rfl rfl rfl rfl rfl rfl rfl ⟨rfl, rfl, rfl, rfl, rfl⟩ rfl rfl rfl rfl rfl (by kernel_rfl) Tryd.func3 (by kernel_rfl)
    (of_decide_eq_true (by kernel_rfl)) (by unfold Func.isWrapper; first | (rw [if_pos (by decide +kernel)]; kernel_rfl) | (rw [if_neg (by decide +kernel)]; exact ⟨rfl, rfl⟩))
    (fun os started H enc _ => bits_lifted os started H enc)

theorem Bits_card_holds : Rows.FnBitsCardSaid :=
  Claim7.holds_tied_plain_at .later [] [.data, .data, .data, .sentinel, .sentinel] true _ true
    bits_holds (fun _ h => by cases h) (by kernel_rfl) (fun _ h => by cases h) fnBits_row_tie rfl ⟨rfl, rfl⟩ (by kernel_rfl) rfl
    (fun f fn hf hfn => by
      obtain rfl : f = 3 := Option.some.inj ((show Tryd.prog.funcNamed "loop.example/g01155/laws.FnBits" = some 3 by kernel_rfl).symm.trans hf) |>.symm
      obtain rfl : fn = Tryd.f3 := (Option.some.inj (Tryd.func3.symm.trans hfn)).symm
      exact ⟨by kernel_rfl, fun j t ht => by
        rw [Tryd.params3] at ht
        have hm : t ∈ [22, 22] := by simpa using Array.mem_of_getElem? ht
        have hall : ([22, 22].all fun u => !Tryd.prog.wantsStandIn u) = true := by kernel_rfl
        exact (show Tryd.prog.wantsStandIn t = false by simpa using List.all_eq_true.1 hall t hm)⟩)
    (by kernel_rfl)
#print axioms Bits_card_holds
end Go.Proofs.YtnjcmonlfngjcaaDoor
