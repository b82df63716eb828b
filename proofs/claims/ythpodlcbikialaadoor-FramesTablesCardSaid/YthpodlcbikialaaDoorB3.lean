import Derived.Test.YthpodlcbikialaaDoorB2
set_option linter.unusedVariables false
set_option linter.unusedSimpArgs false
namespace Go.Proofs.YthpodlcbikialaaDoor
open Go Go.Sh Go.Fr

theorem qs_one {l : List Qr} : ∀ u ∈ qsCells l, u.oneCell' = true := by
  intro u hu
  obtain ⟨q, _, hq⟩ := List.mem_flatMap.1 hu
  simp only [qCells, List.mem_cons, List.not_mem_nil, or_false] at hq
  rcases hq with rfl | rfl | rfl | rfl | rfl <;> rfl
def insq (f : Nat) : List Qr → List Qr
  | [] => [Qr.new f]
  | q :: r => if q.f < f then q :: insq f r else Qr.new f :: q :: r
theorem insq_at (f : Nat) : ∀ (l : List Qr) (k : Nat), (∀ q ∈ l.take k, q.f < f) → (∀ q, l[k]? = some q → ¬ q.f < f) → k ≤ l.length → insq f l = l.take k ++ Qr.new f :: l.drop k
  | [], k, _, _, hk => by simp at hk; subst hk; rfl
  | q :: r, 0, _, h, _ => by
    have := h q (by simp)
    simp [insq, this]
  | q :: r, k + 1, h1, h2, hk => by
    have h3 := h1 q (by simp)
    have := insq_at f r k (fun x hx => h1 x (by simp [hx])) (fun x hx => h2 x (by simpa using hx)) (by simpa using hk)
    simp [insq, h3, this]
theorem rise_drop {f : Nat} : ∀ {l : List Qr} {k : Nat}, l.Pairwise (fun a b => a.f < b.f) → (∀ q, l[k]? = some q → f < q.f) → ∀ q ∈ l.drop k, f < q.f
  | [], k, _, _, q, hq => by simp at hq
  | x :: r, 0, hp, h, q, hq => by
    have h0 := h x (by simp)
    simp at hq
    rcases hq with rfl | hq
    · exact h0
    · have := (List.pairwise_cons.1 hp).1 q hq; omega
  | x :: r, k + 1, hp, h, q, hq => rise_drop (List.pairwise_cons.1 hp).2 (fun y hy => h y (by simpa using hy)) q (by simpa using hq)
theorem SlabOk.ins {l : List Qr} (h : SlabOk l) {f k : Nat} (hf : f < 268435456) (h1 : ∀ q ∈ l.take k, q.f < f) (h2 : ∀ q ∈ l.drop k, f < q.f) : SlabOk (l.take k ++ Qr.new f :: l.drop k) := by
  refine ⟨fun q hq => ?_, ?_, fun q hq => ?_⟩
  · simp only [List.mem_append, List.mem_cons] at hq
    rcases hq with hq | rfl | hq
    · exact h.lt q (List.mem_of_mem_take hq)
    · exact hf
    · exact h.lt q (List.mem_of_mem_drop hq)
  · rw [List.pairwise_append]
    refine ⟨h.rise.sublist (List.take_sublist _ _), List.pairwise_cons.2 ⟨h2, h.rise.sublist (List.drop_sublist _ _)⟩, fun a ha b hb => ?_⟩
    have := h1 a ha
    simp only [List.mem_cons] at hb
    rcases hb with rfl | hb
    · exact this
    · have := h2 b hb; omega
  · simp only [List.mem_append, List.mem_cons] at hq
    rcases hq with hq | rfl | hq
    · exact h.any q (List.mem_of_mem_take hq)
    · exact ⟨0, by decide, rfl⟩
    · exact h.any q (List.mem_of_mem_drop hq)

def F30tail (s0 : Addr) (i65 i56 : Int) (w62 : World) (Q : Value → World → Prop) : Prop :=
  Ld w62 (at0 s0 (1 : Nat)) fun v115 => AsSl v115 fun p116 n117 n118 => RunV prog (Instr.makeSlice (78 : Nat) (.int .i64 (0 : Int)) (.int .i64 (IntKind.i64.wrap ((↑n117 : Int) + (1 : Int))))) w62 fun v119 w120 => AsSl v119 fun p121 n122 n123 => Ld w120 (at0 s0 (1 : Nat)) fun v124 => AsSl v124 fun p125 n126 n127 => (0 : Int) ≤ i65 ∧ i65 ≤ (↑n127 : Int) ∧ RunV prog (Builtin.append_ #[(78 : Nat), (78 : Nat)] (78 : Nat) #[Value.slice p121 n122 n123, Value.slice (slAddr p125 (0 : Nat) n127 (5 : Nat)) (i65.toNat - (0 : Nat)) (n127 - (0 : Nat))]) w120 fun v128 w129 => AsSl v128 fun p130 n131 n132 => RunV prog (Instr.buildSlice (78 : Nat) (1 : Nat) #[((0 : Nat), Value.agg #[.int .i64 i56, .bool true, .bool false, .bool false, .bool false])]) w129 fun v133 w134 => AsSl v133 fun p135 n136 n137 => RunV prog (Builtin.append_ #[(78 : Nat), (78 : Nat)] (78 : Nat) #[Value.slice p130 n131 n132, Value.slice p135 n136 n137]) w134 fun v138 w139 => AsSl v138 fun p140 n141 n142 => Ld w139 (at0 s0 (1 : Nat)) fun v143 => AsSl v143 fun p144 n145 n146 => (0 : Int) ≤ i65 ∧ i65 ≤ (↑n145 : Int) ∧ RunV prog (Builtin.append_ #[(78 : Nat), (78 : Nat)] (78 : Nat) #[Value.slice p140 n141 n142, Value.slice (slAddr p144 i65.toNat n146 (5 : Nat)) (n145 - i65.toNat) (n146 - i65.toNat)]) w139 fun v147 w148 => AsSl v147 fun p149 n150 n151 => St w148 (at0 s0 (1 : Nat)) (Value.slice p149 n150 n151) fun w152 => Q (Value.tuple #[.int .i64 (IntKind.i64.wrap ((4 : Int) * i56)), .int .i64 (0 : Int)]) w152
theorem f30tail {w : World} {s b c : Nat} {g : Option Addr} {l : List Qr} (hS : SlabAt w s b g c l) (at_ f : Nat) (hat : at_ ≤ l.length) (hlt : ∀ q ∈ l.take at_, q.f < f) (hge : ∀ q ∈ l.drop at_, f < q.f) (hf : f < 268435456)
    {Q : Value → World → Prop} (k : ∀ g' c' w', SlabAt w' s b g' c' (l.take at_ ++ Qr.new f :: l.drop at_) → Fr (fun x => x = s) w w' → (∀ x, On g' x → w.heap.size ≤ x) → Q (.tuple #[.int .i64 (4 * (f : Int)), .int .i64 0]) w') :
    F30tail ⟨s, 0, none⟩ (at_ : Int) (f : Int) w Q := by
  have hN := hS.ok.len
  have hsl := hS.st.lt
  have hle := hS.sl.le
  unfold F30tail
  simp only [at0_mk, Nat.zero_add]
  refine hS.st.ld rfl ?_
  rw [AsSl_slice, w64 (n := (l.length : Int) + 1) (by omega) (by omega), show (l.length : Int) + 1 = ((l.length + 1 : Nat) : Int) by omega]
  refine make_sl E78 w.heap.size (Nat.le_refl _) (l.length + 1) (by simp only [maxLen]; omega) (by omega) fun p1 w1 sl1 f1 on1 => ?_
  rw [AsSl_slice]
  refine (hS.fr0 f1).st.ld rfl ?_
  rw [AsSl_slice]
  refine ⟨by omega, by omega, ?_⟩
  simp only [Int.toNat_natCast]
  have hx1 : qsCells (l.take at_) = ((qsCells l).drop (0 * 5)).take ((at_ - 0) * 5) := by
    rw [Nat.zero_mul, List.drop_zero, Nat.sub_zero, qsCells, qsCells, flat_take q_len]
  have src1 := (hS.fr0 f1).sl.src_sub (lo := 0) (hi := at_) (by omega) hat
  rw [← hx1] at src1
  refine append_src E78 sl1 f1.size src1 qs_one (by simp only [maxLen]; omega) (by omega) fun p2 c2 w2 sl2 f2 on2 => ?_
  rw [AsSl_slice]
  have f02 : Fr0 w w2 := f1.own f2 fun x hx hl => by have := on1 x hx; omega
  refine push_sl E78 (by decide) sl2 f02.size rfl (by intro u hu; simp [Value.cells] at hu; rcases hu with rfl | rfl | rfl | rfl | rfl <;> rfl) (by simp only [maxLen]; omega) (by omega) fun p3 c3 w3 sl3 f3 on3 => ?_
  rw [AsSl_slice]
  have f03 : Fr0 w w3 := f02.own f3 fun x hx hl => by have := (sl2.lt x hx).1; omega
  refine (hS.fr0 f03).st.ld rfl ?_
  rw [AsSl_slice]
  refine ⟨by omega, by omega, ?_⟩
  have hx2 : qsCells (l.drop at_) = ((qsCells l).drop (at_ * 5)).take ((l.length - at_) * 5) := by
    rw [qsCells, qsCells, flat_drop q_len, List.take_of_length_le (by rw [flat_len q_len, List.length_drop]; omega)]
  have src2 := (hS.fr0 f03).sl.src_sub (lo := at_) (hi := l.length) hat (Nat.le_refl _)
  rw [← hx2] at src2
  refine append_src E78 sl3 f03.size src2 qs_one (by simp only [maxLen]; omega) (by omega) fun p4 c4 w4 sl4 f4 on4 => ?_
  rw [AsSl_slice]
  have f04 : Fr0 w w4 := f03.own f4 fun x hx hl => by have := (sl3.lt x hx).1; omega
  refine (hS.fr0 f04).st.st (by simp) rfl fun w5 st5 f5 s5 => ?_
  have hon4 : ∀ x, On p4 x → w.heap.size ≤ x := fun x hx => (sl4.lt x hx).1
  rw [w64 (n := (4 : Int) * (f : Int)) (by omega) (by omega)]
  have hlen : 0 + (at_ - 0) + 1 + (l.length - at_) = (l.take at_ ++ Qr.new f :: l.drop at_).length := by
    simp only [List.length_append, List.length_take, List.length_cons, List.length_drop, Nat.min_eq_left hat]; omega
  refine k p4 c4 w5 ⟨?_, ?_, fun h => by have := hon4 _ h; omega, hS.ok.ins hf hlt hge⟩ (f04.mono (fun _ _ h => h.elim) |>.trans f5) hon4
  · rw [← hlen]; exact st5
  · have := (sl4.mono (Nat.zero_le _)).fr f5 fun x hx h => by have := hon4 x hx; omega
    rw [← hlen]
    have e : qsCells (l.take at_ ++ Qr.new f :: l.drop at_) = [] ++ qsCells (l.take at_) ++ [.int .i64 ((f : Nat) : Int), .bool true, .bool false, .bool false, .bool false] ++ qsCells (l.drop at_) := by
      simp [qsCells, qCells, Qr.new]
    rw [e]; exact this
end Go.Proofs.YthpodlcbikialaaDoor
