/- Rows that are read and whose elements lead to blocks of their own; what an append of such a row leaves. -/
import Derived.Test.YtdleofaikjkndaaDoorPlanCl
import Derived.Test.YtdleofaikjkndaaDoorWZeros
namespace Go.Proofs.YtdleofaikjkndaaDoor
open Go.RowKit Go.Proofs.YtdleofaikjkndaaDoorW.PrintWords

/-- A row that is read: no two of its elements lead to one block. -/
def SR {α : Type} (d : Kd α) (w : World) (base : Nat) (ok : Nat → Prop) (A : Option Addr) (n : Nat) (xs : List α) : Prop :=
  ∃ f, ReadsRow ((Kd.tag f d).M w base ok) d.sz w A n xs.zipIdx
section
variable {α : Type} {d : Kd α} {w w1 W : World} {base e n m c : Nat} {ok ok' okp : Nat → Prop} {v : Value} {A : Option Addr} {xs ys : List α}

theorem SR_of_S (h : Kd.S d e w base ok v xs) : ∃ A c, v = .slice A xs.length c ∧ xs.length ≤ c ∧ SR d w base ok A xs.length xs := by
  obtain ⟨A, c, hv, hc, _⟩ := Kd.S_reads h
  obtain ⟨f, h0, inner, ho, hr⟩ := h
  obtain ⟨A', c', hv', hrow⟩ := own_reads_row ho hr rfl
  rw [hv] at hv'
  injection hv' with e1 e2 e3
  subst e1
  rw [List.length_zipIdx] at hrow
  exact ⟨A, c, hv, hc, f, hrow.imp_ (Below.refl _ _) (fun p cs hp => d.M_mono (fun k hk => ⟨hk.1.1, hk.2⟩) hp)⟩
theorem SR_C (h : SR d w base ok A n xs) : d.C w A n xs := by
  obtain ⟨f, h1, h2, h3⟩ := h
  rw [List.length_zipIdx] at h1
  refine ⟨h1, h2, fun hn => ?_⟩
  obtain ⟨ad, e, hc⟩ := h3 hn
  refine ⟨ad, e, fun j p hj => ?_⟩
  obtain ⟨cs, k1, k2, k3⟩ := hc j (p, j) (Kd.zip_at hj)
  exact ⟨cs, k1, d.K_of_M k2, k3⟩
theorem SR_mono (h : SR d w base ok A n xs) (hok : ∀ k, ok k → ok' k) : SR d w base ok' A n xs := by
  obtain ⟨f, h⟩ := h
  exact ⟨f, h.imp_ (Below.refl _ _) (fun p cs hp => d.M_mono (fun k hk => ⟨hok k hk.1, hk.2⟩) hp)⟩
theorem SR_below (h : SR d w base ok A n xs) (hb : Below w.heap.size w w1) : SR d w1 base ok A n xs := by
  obtain ⟨f, h⟩ := h
  exact ⟨f, h.imp_ hb (fun p cs hp => Kd.M_below hp hb)⟩
theorem SR_lower {base' : Nat} (h : SR d w base ok A n xs) (hb : base' ≤ base) : SR d w base' ok A n xs := by
  obtain ⟨f, h⟩ := h
  exact ⟨f, h.imp_ (Below.refl _ _) (fun p cs hp => d.M_lower hb hp)⟩
theorem SR_bound (h : SR d w base ok A n xs) : SR d w base (fun k => ok k ∧ base ≤ k ∧ k < w.heap.size ∧ ∃ q, q ∈ d.E ∧ ∃ cells, w.heap[k]? = some (.cells cells q (0, 0))) A n xs := by
  obtain ⟨f, h⟩ := h
  exact ⟨f, h.imp_ (Below.refl _ _) (fun p cs hp => d.M_mono (fun k hk => ⟨⟨hk.1.1, hk.2⟩, hk.1.2⟩) (d.M_bound hp))⟩
/-- The first ones; those behind: their blocks are parted. -/
theorem SR_cut (h : SR d w base ok A xs.length xs) : ∃ f : Nat → Nat, (∀ i, i ≤ xs.length → SR d w base (fun k => ok k ∧ f k < i) A (xs.take i).length (xs.take i)) ∧
    ∀ i c, i ≤ xs.length → xs.length ≤ c → SR d w base (fun k => ok k ∧ i ≤ f k) (if c = i then A else A.map (·.add (i * d.sz))) (xs.drop i).length (xs.drop i) := by
  obtain ⟨f, h1, h2, h3⟩ := h
  rw [List.length_zipIdx] at h1
  refine ⟨f, fun i hi => ⟨f, ?_, ?_, fun hn => ?_⟩, fun i c hi hc => ⟨fun k => f k - i, ?_, ?_, fun hn => ?_⟩⟩
  · rw [List.length_zipIdx]
  · rw [List.length_take]; omega
  · rw [List.length_take] at hn
    obtain ⟨ad, e, hcell⟩ := h3 (by omega)
    refine ⟨ad, e, fun j p hj => ?_⟩
    rw [List.getElem?_zipIdx, Nat.zero_add] at hj
    obtain ⟨q, hq, rfl⟩ := Option.map_eq_some_iff.1 hj
    rw [List.getElem?_take] at hq
    split at hq
    · obtain ⟨cs, k1, k2, k3⟩ := hcell j (q, j) (Kd.zip_at hq)
      exact ⟨cs, k1, d.M_mono (fun k hk => ⟨⟨hk.1, by have : f k = j := hk.2; omega⟩, hk.2⟩) k2, k3⟩
    · cases hq
  · rw [List.length_zipIdx]
  · rw [List.length_drop]; omega
  · rw [List.length_drop] at hn
    obtain ⟨ad, rfl, hcell⟩ := h3 (by omega)
    rw [if_neg (by omega)]
    refine ⟨ad.add (i * d.sz), rfl, fun j p hj => ?_⟩
    rw [List.getElem?_zipIdx, Nat.zero_add] at hj
    obtain ⟨q, hq, rfl⟩ := Option.map_eq_some_iff.1 hj
    rw [List.getElem?_drop] at hq
    obtain ⟨cs, k1, k2, k3⟩ := hcell (i + j) (q, i + j) (Kd.zip_at hq)
    refine ⟨cs, k1, d.M_mono (fun k hk => ?_) k2, fun u x hx => ?_⟩
    · have : f k = i + j := hk.2
      exact ⟨⟨hk.1, by omega⟩, by show f k - i = j; omega⟩
    · rw [add_add, show i * d.sz + (j * d.sz + u) = (i + j) * d.sz + u by rw [Nat.add_mul]; omega]
      exact k3 u x hx

open Classical in
/-- append(v, ys...): ys is read; its blocks (okp) are none of v's. -/
theorem S_append_SR {P : Program} {ops : Array Oper} {rest : List Oper} {o : Oper} {a : Act} {Q : Exit → Act → World → Prop} (d : Kd α) (base : Nat) (hgd : o.guard = none) (s x : Operand) (t e : TypeId) (z : Value) (bytes : Nat)
    (ho : o.op = .call { callee := .builtin .append, args := #[s, x], argTypes := #[t, t] })
    (ht : P.underlying t = some (.slice e)) (hinfo : (P.info? e).map (fun i => (i.zero, i.size, i.bytes)) = some (some z, d.sz, bytes)) (hz : z.cells.size = d.sz) (hs0 : 0 < d.sz) (hb0 : 0 < bytes)
    (v : Value) (xs ys : List α) (A : Option Addr) (m c : Nat) (ok okp : Nat → Prop) (hs : a.eval s = v) (hx : a.eval x = .slice A m c)
    (HO : Kd.S d e W base (fun k => ok k ∧ ¬ okp k) v xs) (HR : SR d W base okp A m ys) (hokp : ∀ k, okp k → ok k ∧ some k ≠ v.ownBlock) (hfresh : ∀ k, W.heap.size ≤ k → ok k)
    (hbase : base ≤ W.heap.size) (hl : (xs.length + m) * bytes ≤ 140737488355328)
    (h : ∀ v1 w1, Kd.S d e w1 base ok v1 (xs ++ ys) → W.grownBy w1 v.ownBlock → (v1.ownBlock = v.ownBlock ∨ ∃ b, v1.ownBlock = some b ∧ W.heap.size ≤ b) → wpList P ops Q rest (a.put o.dst v1) w1) :
    wpList P ops Q (o :: rest) a W := by
  obtain ⟨f0, hS⟩ := HO
  obtain ⟨f1, hR1, hR2, hR3⟩ := HR
  rw [List.length_zipIdx] at hR1
  refine Kd.R_append_rows (Kd.tag (fun k => if okp k then xs.length + f1 k else f0 k) d) (Rr := (Kd.tag (fun k => if okp k then xs.length + f1 k else f0 k) d).M W base okp) (w0 := W) base hgd s x t e z bytes ho ht hinfo hz hs0 hb0 v xs.zipIdx (ys.zipIdx xs.length) A m c ok okp hs hx
    (Kd.R_mono (Kd.R_tag hS (fun k hk _ => if_neg hk.2)) (fun _ hk => hk.1)) ?_ (fun _ _ hh => hh) hokp hfresh (Below.refl _ _) hbase (by rw [List.length_zipIdx]; exact hl) ?_
  · refine ⟨by rw [List.length_zipIdx]; exact hR1, hR2, fun hn => ?_⟩
    obtain ⟨ad, e1, hc⟩ := hR3 hn
    refine ⟨ad, e1, fun j p hj => ?_⟩
    rw [List.getElem?_zipIdx] at hj
    obtain ⟨q, hq, rfl⟩ := Option.map_eq_some_iff.1 hj
    obtain ⟨cs, k1, k2, k3⟩ := hc j (q, j) (Kd.zip_at hq)
    refine ⟨cs, k1, d.M_mono (fun k hk => ⟨hk.1, ?_⟩) k2, k3⟩
    have : f1 k = j := hk.2
    show (if okp k then xs.length + f1 k else f0 k) = xs.length + j
    rw [if_pos hk.1, this]
  · intro v1 w1 hr _ hg hat
    refine h v1 w1 ⟨(fun k => if okp k then xs.length + f1 k else f0 k), ?_⟩ hg hat
    rw [List.zipIdx_append, Nat.zero_add]
    exact hr
end
end Go.Proofs.YtdleofaikjkndaaDoor
