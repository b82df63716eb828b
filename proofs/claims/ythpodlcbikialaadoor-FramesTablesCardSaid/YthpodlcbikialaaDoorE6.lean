import Derived.Test.YthpodlcbikialaaDoorE5
set_option linter.unusedVariables false
set_option linter.unusedSimpArgs false
namespace Go.Proofs.YthpodlcbikialaaDoor
open Go Go.Sh Go.Fr

theorem E33 : ElemT prog 33 25 (.pointer none) 1 8 := ⟨by kernel_rfl, by kernel_rfl, rfl, by decide⟩
/-- the state of FramesTables -/
structure Tbl (w0 w : World) (b bu bd sa sb lo m : Nat) (ga gb : Option Addr) (ca cb : Nat) (la lb : List Qr) (p : Pool) : Prop where
  two : Two w0 w b bu bd sa sb ga gb ca cb la lb p
  first : p.first = lo
  len : p.u.length = m
  oA : Ones p la
  oB : Ones p lb
  sum : p.free + la.length + lb.length = m
theorem Tbl.swap {w0 w : World} {b bu bd sa sb lo m : Nat} {ga gb : Option Addr} {ca cb : Nat} {la lb : List Qr} {p : Pool} (h : Tbl w0 w b bu bd sa sb lo m ga gb ca cb la lb p) : Tbl w0 w b bu bd sb sa lo m gb ga cb ca lb la p :=
  ⟨h.two.swap, h.first, h.len, h.oB, h.oA, by have := h.sum; omega⟩
theorem Tbl.fr0 {w0 w w' : World} {b bu bd sa sb lo m : Nat} {ga gb : Option Addr} {ca cb : Nat} {la lb : List Qr} {p : Pool} (h : Tbl w0 w b bu bd sa sb lo m ga gb ca cb la lb p) (f : Fr0 w w') : Tbl w0 w' b bu bd sa sb lo m ga gb ca cb la lb p :=
  ⟨h.two.fr0 f, h.first, h.len, h.oA, h.oB, h.sum⟩
theorem Tbl.take {w0 w : World} {b bu bd sa sb lo m : Nat} {ga gb : Option Addr} {ca cb : Nat} {la lb : List Qr} {p : Pool} (h : Tbl w0 w b bu bd sa sb lo m ga gb ca cb la lb p) :
    Ret prog 30 #[.pointer (some ⟨sa, 0, none⟩)] w fun v w' => ∃ (r e : Nat) (p' : Pool) (la' : List Qr) (ga' : Option Addr) (ca' : Nat), v = .tuple #[.int .i64 (r : Int), .int .i64 (e : Int)] ∧ STake p la r e p' la' ∧ Tbl w0 w' b bu bd sa sb lo m ga' gb ca' cb la' lb p' ∧ Fr (OwnS b bu bd sa ga) w w' := by
  refine Ret.use h.two.take ?_
  rintro v w' ⟨r, e, p', l', g', c', rfl, hst, h2, hf⟩
  obtain ⟨o1, o2, o3, o4, o5⟩ := hst.ones h.two.hA h.oA
  exact ⟨r, e, p', l', g', c', rfl, hst, ⟨h2, by rw [o4, h.first], by rw [o5, h.len], o1, o2 lb h.two.hB h.oB, by have := h.sum; omega⟩, hf⟩
theorem Tbl.drop {w0 w : World} {b bu bd sa sb lo m : Nat} {ga gb : Option Addr} {ca cb : Nat} {la lb : List Qr} {p : Pool} (h : Tbl w0 w b bu bd sa sb lo m ga gb ca cb la lb p) (x : Nat) (hx : x < 1073741824) :
    Ret prog 33 #[.pointer (some ⟨sa, 0, none⟩), .int .i64 (x : Int)] w fun v w' => ∃ (e : Nat) (p' : Pool) (la' : List Qr) (ga' : Option Addr) (ca' : Nat), v = .int .i64 (e : Int) ∧
      ((e = 45 ∧ x ∉ tabs la ∧ la' = la ∧ p' = p) ∨ (e = 0 ∧ x ∈ tabs la ∧ tabs la' = (tabs la).filter fun y => decide (y ≠ x))) ∧ Tbl w0 w' b bu bd sa sb lo m ga' gb ca' cb la' lb p' ∧ Fr (OwnS b bu bd sa ga) w w' := by
  refine Ret.use (h.two.drop (x : Int) ⟨by omega, by omega⟩) ?_
  rintro v w' ⟨e, p', l', g', c', rfl, hst, h2, hf⟩
  obtain ⟨o1, o2, o3, o4, o5⟩ := hst.ones h.two.A.ok h.two.hA h.oA
  exact ⟨e, p', l', g', c', rfl, hst.tabs_eq h.two.A.ok rfl, ⟨h2, by rw [o4, h.first], by rw [o5, h.len], o1, o2 lb h.two.hB h.two.dj h.oB, by have := h.sum; omega⟩, hf⟩
/-- a block that lies aside of all that the state owns -/
theorem Tbl.aside {w0 w w' : World} {b bu bd sa sb lo m bs : Nat} {ga gb : Option Addr} {ca cb : Nat} {la lb : List Qr} {p : Pool} (h : Tbl w0 w b bu bd sa sb lo m ga gb ca cb la lb p) (hb : ¬ Own b bu bd bs ∧ ¬ Sb sa ga bs ∧ ¬ Sb sb gb bs) : ¬ OwnS b bu bd sa ga bs := by
  rintro (h1 | h1 | h1)
  · exact hb.1 h1
  · exact hb.2.1 (.inl h1)
  · exact hb.2.1 (.inr h1)
theorem zero_all {u : List Nat} (h : zeros u = u.length) : ∀ x, u.getD x 0 = 0 := by
  have h1 := List.countP_eq_length.1 h
  intro x
  by_cases hx : x < u.length
  · rw [getD_get hx]; simpa using h1 _ (List.getElem_mem hx)
  · simp [List.getD, List.getElem?_eq_none (show u.length ≤ x by omega)]

/-- with the block of the two pointers beside it -/
structure TblS (w0 w : World) (b bu bd sa sb lo m bs : Nat) (ga gb : Option Addr) (ca cb : Nat) (la lb : List Qr) (p : Pool) : Prop where
  t : Tbl w0 w b bu bd sa sb lo m ga gb ca cb la lb p
  hs : w0.heap.size ≤ bs
  out : ¬ Own b bu bd bs ∧ ¬ Sb sa ga bs ∧ ¬ Sb sb gb bs
  lt : bs < w.heap.size
section
variable {w0 w w' : World} {b bu bd sa sb lo m bs : Nat} {ga gb : Option Addr} {ca cb : Nat} {la lb : List Qr} {p : Pool}
theorem TblS.swap (h : TblS w0 w b bu bd sa sb lo m bs ga gb ca cb la lb p) : TblS w0 w b bu bd sb sa lo m bs gb ga cb ca lb la p := ⟨h.t.swap, h.hs, ⟨h.out.1, h.out.2.2, h.out.2.1⟩, h.lt⟩
theorem TblS.fr0 (h : TblS w0 w b bu bd sa sb lo m bs ga gb ca cb la lb p) (f : Fr0 w w') : TblS w0 w' b bu bd sa sb lo m bs ga gb ca cb la lb p := ⟨h.t.fr0 f, h.hs, h.out, Nat.lt_of_lt_of_le h.lt f.size⟩
theorem TblS.aside (h : TblS w0 w b bu bd sa sb lo m bs ga gb ca cb la lb p) : ¬ OwnS b bu bd sa ga bs := by
  rintro (h1 | h1 | h1)
  · exact h.out.1 h1
  · exact h.out.2.1 (.inl h1)
  · exact h.out.2.1 (.inr h1)
theorem TblS.own (h : TblS w0 w b bu bd sa sb lo m bs ga gb ca cb la lb p) : ∀ x, OwnS b bu bd sa ga x → x < w.heap.size := by
  rintro x (h1 | h1 | h1)
  · exact h.t.two.pool.lt x h1
  · exact h.t.two.A.lt x (.inl h1)
  · exact h.t.two.A.lt x (.inr h1)
theorem TblS.take (h : TblS w0 w b bu bd sa sb lo m bs ga gb ca cb la lb p) {cells : List Value} (hB : Has w bs cells) :
    Ret prog 30 #[.pointer (some ⟨sa, 0, none⟩)] w fun v w' => ∃ (r e : Nat) (p' : Pool) (la' : List Qr) (ga' : Option Addr) (ca' : Nat), v = .tuple #[.int .i64 (r : Int), .int .i64 (e : Int)] ∧ STake p la r e p' la' ∧ TblS w0 w' b bu bd sa sb lo m bs ga' gb ca' cb la' lb p' ∧ Has w' bs cells ∧ Fr (OwnS b bu bd sa ga) w w' := by
  -- the new list's block is its own elder one or a new one
  refine Ret.use (f30 h.t.two.pool h.t.two.tz' h.t.two.z.1 h.t.two.A h.t.two.hA (h.t.two.sab sa (.inl rfl)).1 fun x hx => (h.t.two.sab x (.inr hx)).1) ?_
  rintro v w' ⟨r, e, p', l', g', c', rfl, hst, hP, hS, hf, hon⟩
  obtain ⟨h1, h2, h3⟩ := hst.held h.t.two.hA
  obtain ⟨o1, o2, o3, o4, o5⟩ := hst.ones h.t.two.hA h.t.oA
  refine ⟨r, e, p', l', g', c', rfl, hst, ⟨⟨h.t.two.turned hP hS hf hon h1 (h2 lb h.t.two.hB) (h3 lb h.t.two.hB h.t.two.dj), by rw [o4, h.t.first], by rw [o5, h.t.len], o1, o2 lb h.t.two.hB h.t.oB, by have := h.t.sum; omega⟩, h.hs, ⟨h.out.1, ?_, h.out.2.2⟩, Nat.lt_of_lt_of_le h.lt hf.size⟩, hB.fr hf h.aside, hf⟩
  rintro (e | hx)
  · exact h.out.2.1 (.inl e)
  · rcases hon _ hx with h4 | h4
    · exact h.out.2.1 (.inr h4)
    · have := h.lt; omega
theorem TblS.drop (h : TblS w0 w b bu bd sa sb lo m bs ga gb ca cb la lb p) {cells : List Value} (hB : Has w bs cells) (x : Nat) (hx : x < 1073741824) :
    Ret prog 33 #[.pointer (some ⟨sa, 0, none⟩), .int .i64 (x : Int)] w fun v w' => ∃ (e : Nat) (p' : Pool) (la' : List Qr) (ga' : Option Addr) (ca' : Nat), v = .int .i64 (e : Int) ∧
      ((e = 45 ∧ x ∉ tabs la ∧ la' = la ∧ p' = p) ∨ (e = 0 ∧ x ∈ tabs la ∧ tabs la' = (tabs la).filter fun y => decide (y ≠ x))) ∧ TblS w0 w' b bu bd sa sb lo m bs ga' gb ca' cb la' lb p' ∧ Has w' bs cells ∧ Fr (OwnS b bu bd sa ga) w w' := by
  obtain ⟨z1, z2, _⟩ := h.t.two.z
  refine Ret.use (f33 h.t.two.pool h.t.two.tz' (fun hx => by rcases hx with hx | hx | hx; exact z1 hx; exact z2 (.inl hx); exact z2 (.inr hx)) h.t.two.A h.t.two.hA (h.t.two.sab sa (.inl rfl)).1 (fun x hx => (h.t.two.sab x (.inr hx)).1) (x : Int) ⟨by omega, by omega⟩) ?_
  rintro v w' ⟨e, p', l', g', c', rfl, hst, hP, hS, hf, hon⟩
  obtain ⟨h1, h2, h3⟩ := hst.held h.t.two.A.ok h.t.two.hA
  obtain ⟨o1, o2, o3, o4, o5⟩ := hst.ones h.t.two.A.ok h.t.two.hA h.t.oA
  refine ⟨e, p', l', g', c', rfl, hst.tabs_eq h.t.two.A.ok rfl, ⟨⟨h.t.two.turned hP hS hf hon h1 (h2 lb h.t.two.hB h.t.two.dj) (h3 lb h.t.two.dj), by rw [o4, h.t.first], by rw [o5, h.t.len], o1, o2 lb h.t.two.hB h.t.two.dj h.t.oB, by have := h.t.sum; omega⟩, h.hs, ⟨h.out.1, ?_, h.out.2.2⟩, Nat.lt_of_lt_of_le h.lt hf.size⟩, hB.fr hf h.aside, hf⟩
  rintro (e | hx)
  · exact h.out.2.1 (.inl e)
  · rcases hon _ hx with h4 | h4
    · exact h.out.2.1 (.inr h4)
    · have := h.lt; omega
end
end Go.Proofs.YthpodlcbikialaaDoor
