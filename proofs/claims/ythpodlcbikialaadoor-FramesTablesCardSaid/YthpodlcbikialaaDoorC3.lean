import Derived.Test.YthpodlcbikialaaDoorC2
set_option linter.unusedVariables false
set_option linter.unusedSimpArgs false
namespace Go.Proofs.YthpodlcbikialaaDoor
open Go Go.Sh Go.Fr

/-- nothing that was there before has turned -/
theorem Fr.news {S : Nat → Prop} {w w1 w2 : World} (h : Fr0 w w1) (k : Fr S w1 w2) (hS : ∀ x, S x → w.heap.size ≤ x) : Fr0 w w2 :=
  ⟨k.os.trans h.os, k.output.trans h.output, k.tape.trans h.tape, Nat.le_trans h.size k.size, fun b hb hn => (k.block b (Nat.lt_of_lt_of_le hb h.size) fun hs => by have := hS b hs; omega).trans (h.block b hb hn)⟩
theorem Fr.old {S T : Nat → Prop} {w w1 w2 : World} (h : Fr T w w1) (k : Fr S w1 w2) (hS : ∀ x, x < w.heap.size → S x → T x) : Fr T w w2 :=
  ⟨k.os.trans h.os, k.output.trans h.output, k.tape.trans h.tape, Nat.le_trans h.size k.size, fun b hb hn => (k.block b (Nat.lt_of_lt_of_le hb h.size) fun hs => hn (hS b hb hs)).trans (h.block b hb hn)⟩
theorem Ld.of {w : World} {a : Addr} {v : Value} {K : Value → Prop} (h : w.cell? a = some v) (k : K v) : Ld w a K := ⟨v, h, k⟩
/-! ## scripts -/
structure Op5 where
  k : Int
  f : Int
  n : Int
  al : Int
  y : Int
def Op5.cells (o : Op5) : List Value := [.int .i64 o.k, .int .i64 o.f, .int .i64 o.n, .int .i64 o.al, .int .i64 o.y]
structure Op5.Ok (o : Op5) : Prop where
  k : I64 o.k
  f : I64 o.f
  n : I64 o.n
  al : I64 o.al
  y : I64 o.y
def opCells (l : List Op5) : List Value := l.flatMap Op5.cells
theorem op_len (o : Op5) : o.cells.length = 5 := rfl
/-- a script that came in: the slice (q, n, c) reads as l -/
structure ScrAt (w : World) (q : Option Addr) (n : Nat) (l : List Op5) : Prop where
  rd : Rd w q (opCells l)
  len : l.length = n
  ok : ∀ o ∈ l, o.Ok
  lt : n ≤ 9223372036854775807
theorem ScrAt.fr {S : Nat → Prop} {w w' : World} {q : Option Addr} {n : Nat} {l : List Op5} (h : ScrAt w q n l) (f : Fr S w w') (hS : ∀ b, On q b → ¬ S b) : ScrAt w' q n l := ⟨h.rd.fr f hS, h.len, h.ok, h.lt⟩
theorem ScrAt.fr0 {w w' : World} {q : Option Addr} {n : Nat} {l : List Op5} (h : ScrAt w q n l) (f : Fr0 w w') : ScrAt w' q n l := h.fr f fun _ _ h => h
theorem ScrAt.get {w : World} {q : Option Addr} {n : Nat} {l : List Op5} (h : ScrAt w q n l) {i : Nat} {o : Op5} (hi : l[i]? = some o) {K : Addr → Prop}
    (k : ∀ b off, q = some ⟨b, off, none⟩ → (∀ j v, j < 5 → o.cells[j]? = some v → w.cell? ⟨b, off + (i * 5 + j), none⟩ = some v) → K ⟨b, off, none⟩) : NilP q K := by
  have hg : ∀ j v, j < 5 → o.cells[j]? = some v → (opCells l)[i * 5 + j]? = some v := fun j v hj hv => (flat_get op_len l i j hj o hi).trans hv
  refine h.rd.ld (i := i * 5) (v := .int .i64 o.k) (hg 0 _ (by decide) rfl) fun b off hq _ => k b off hq fun j v hj hv => ?_
  obtain ⟨b', o', hq', hc⟩ := h.rd _ _ (hg j v hj hv)
  rw [hq] at hq'; injection hq' with hq'; injection hq' with h1 h2
  rw [h1, h2]; exact hc

def F4tail (p6 : Option Addr) (i9 i12 i49 i58 i70 : Int) (p44 : Option Addr) (n45 n46 : Nat) (w64 : World) (Q : Value → World → Prop) : Prop :=
  CallS prog (23 : Nat) #[.pointer p6, .int .i64 (IntKind.i64.wrap ((1 : Int) + i49)), .int .i64 i58] w64 fun v112 w113 => AsTup v112 fun s114 => UnC s114 fun v115 s116 => AsI IntKind.i64 v115 fun i117 => UnC s116 fun v118 s119 => AsI IntKind.i64 v118 fun i120 => UnN s119 (BIf (decide (i70 < (0 : Int))) (BIf (i117 == (0 : Int)) (CallS prog (14 : Nat) #[.int .i64 i120] w113 fun v121 w122 => AsI IntKind.i64 v121 fun i123 => BIf (i123 == (42 : Int)) (CallS prog (21 : Nat) #[.pointer p6, .int .i64 i9, .int .i64 i12] w122 fun v124 w125 => AsSl v124 fun p126 n127 n128 => CallS prog (24 : Nat) #[Value.slice p126 n127 n128, Value.slice p44 n45 n46] w125 fun v129 w130 => AsB v129 fun b131 => Q (.bool b131) w130) (Q (.bool false) w122)) (Q (.bool false) w113)) (BIf (i117 == i70) (CallS prog (14 : Nat) #[.int .i64 i120] w113 fun v132 w133 => AsI IntKind.i64 v132 fun i134 => Q (.bool (i134 == (0 : Int))) w133) (Q (.bool false) w113)))
theorem f4tail {w w0 : World} {b bu bd : Nat} {p : Pool} (hP : PoolAt w b bu bd p) (hT : Tz w) (hd : ¬ Own b bu bd 0) {q : Option Addr} {c : Nat} (hq : Rd w q (i64n p.u)) (hqb : ∀ x, On q x → ¬ Own b bu bd x) (N : Nat) (hN : N < 40) (al : Int) (want : Int)
    (hbad : ¬ badTake (1 + (N : Int)) al) (hwant : (want = -1 ∧ ∀ a, ¬ Fit p.first p.u (1 + N) al.toNat a) ∨ ∃ a : Nat, want = (p.first + a : Nat) ∧ Fit p.first p.u (1 + N) al.toNat a ∧ ∀ a', a' < a → ¬ Fit p.first p.u (1 + N) al.toNat a')
    (hf : Fr0 w0 w) (hb : w0.heap.size ≤ b ∧ w0.heap.size ≤ bu ∧ w0.heap.size ≤ bd) : F4tail (some ⟨b, 0, none⟩) (p.first : Int) (p.u.length : Int) (N : Int) al want q p.u.length c w fun v w' => v = .bool true ∧ Fr0 w0 w' := by
  have hown : ∀ x, Own b bu bd x → w0.heap.size ≤ x := by intro x hx; unfold Own at hx; omega
  unfold F4tail
  rw [w64 (n := (1 : Int) + (N : Int)) (by omega) (by omega)]
  refine Ret.use (f23' hP hT hd _ al (by omega)) ?_
  rintro v w1 ⟨r, e, p', rfl, ht, hP1, hf1⟩
  simp only [AsTup_tuple, UnC_cons, UnN_nil, AsI_int]
  have e1 : ((1 : Int) + (N : Int)).toNat = 1 + N := by omega
  have hf01 := Fr.news hf hf1 hown
  refine BIf_cases (fun hneg => ?_) (fun hpos => ?_)
  · rcases hwant with ⟨_, hno⟩ | ⟨a, h, _⟩
    · cases ht with
      | bad h => exact absurd h hbad
      | ok _ a hfit _ => rw [e1] at hfit; exact absurd hfit (hno a)
      | none _ _ =>
        refine BIf_eq (fun _ => ?_) (fun h => absurd rfl h)
        refine Ret.use (f14 _) ?_
        rintro v w2 ⟨rfl, hw⟩
        obtain rfl := hw.symm
        rw [AsI_int]
        refine BIf_eq (fun _ => ?_) (fun h => absurd rfl h)
        refine Ret.use (f21 hP1) ?_
        rintro v w3 ⟨q3, c3, rfl, sl3, hf3⟩
        simp only [AsSl_slice]
        have h1 := sl3.rd
        have h2 := (hq.fr hf1 hqb).fr0 hf3
        rw [i64n_eq] at h1 h2
        have hn := hP.ok.n
        have hr := f24 (ac := c3) (bc := c) h1 h2 (by rw [List.length_map]; omega) (by rw [List.length_map]; omega)
        rw [List.length_map] at hr
        refine Ret.use hr ?_
        rintro v w4 ⟨rfl, hq4⟩
        simp only [AsB_bool, decide_true]
        exact ⟨by trivial, (hf01.trans hf3).trans hq4.fr⟩
    · omega
  · rcases hwant with ⟨h, _⟩ | ⟨a, rfl, hfit, hleast⟩
    · omega
    · obtain ⟨rfl, rfl, rfl⟩ := ht.eq hbad (by rw [e1]; exact hfit) (by rw [e1]; exact hleast)
      refine BIf_eq (fun _ => ?_) (fun h => absurd rfl h)
      refine Ret.use (f14 _) ?_
      rintro v w2 ⟨rfl, hw⟩
      obtain rfl := hw.symm
      rw [AsI_int]
      exact ⟨rfl, hf01⟩
theorem pow2_ok : ∀ i, i < 13 → pow2B (2 ^ i) = true ∧ 2 ^ i ≤ 4096 := by decide +kernel
theorem f4 {w : World} (hT : Tz w) (first count : Int) {q : Option Addr} {n c : Nat} {l : List Op5} (hs : ScrAt w q n l) (x al : Int) :
    Ret prog 4 #[.int .i64 first, .int .i64 count, .slice q n c, .int .i64 x, .int .i64 al] w fun v w' => v = .bool true ∧ Fr0 w w' := by
  have h0 := hT.size
  refine F4_of _ _ _ _ _ _ _ _ _ ?_
  unfold F4
  refine Ret.use (f19 first count) ?_
  rintro v w1 ⟨b, bu, bd, rfl, hP1, hf1, hb⟩
  have hd : ¬ Own b bu bd 0 := by unfold Own; omega
  have hown : ∀ x, Own b bu bd x → w.heap.size ≤ x := by intro x hx; unfold Own at hx; omega
  simp only [AsTup_tuple, UnC_cons, UnN_nil, AsI_int, AsP_pointer]
  rw [show (some (⟨b, 0, none⟩ : Addr)).isNone = false from rfl, BIf_false]
  refine Ret.use (f13 (hT.fr0 hf1)) ?_
  rintro v w2 ⟨rfl, hf2⟩
  rw [AsB_bool, Bool.not_true, BIf_false]
  have g1 : 0 ≤ first % 10000 ∧ first % 10000 < 10000 := by omega
  have g2 : 1 ≤ 1 + count % 200 ∧ 1 + count % 200 ≤ 200 := by omega
  obtain ⟨lo, hlo⟩ : ∃ lo : Nat, first % 10000 = lo := ⟨(first % 10000).toNat, by omega⟩
  obtain ⟨m, hm⟩ : ∃ m : Nat, 1 + count % 200 = m := ⟨(1 + count % 200).toNat, by omega⟩
  rw [hlo, hm] at hP1 ⊢
  rw [hlo] at g1; rw [hm] at g2
  simp only [Int.toNat_natCast] at hP1
  refine Loop.by (fun s w' => ∃ (i : Nat) (p : Pool), s = [.int .i64 (i : Int)] ∧ i ≤ n ∧ p.first = lo ∧ p.u.length = m ∧ PoolAt w' b bu bd p ∧ Fr0 w w')
    (fun s _ => match s with | [.int _ k] => n - k.toNat | _ => 0)
    ⟨0, newPool lo m, rfl, by omega, rfl, by simp [newPool], hP1.fr0 hf2, hf1.trans hf2⟩ ?_
  rintro _ w3 ⟨i, p, rfl, hi, hpf, hpl, hP3, hf3⟩
  have hT3 := hT.fr0 hf3
  simp only [UnC_cons, UnN_nil, AsI_int]
  have hn := hs.lt
  refine BIf_cases (fun hlt => ?_) (fun hge => ?_)
  · have hil : i < l.length := by rw [hs.len]; omega
    obtain ⟨o, ho⟩ : ∃ o, l[i]? = some o := ⟨_, List.getElem?_eq_getElem hil⟩
    have hok := hs.ok o (List.mem_of_getElem? ho)
    refine (hs.fr0 hf3).get ho fun sb so hq hc => ?_
    simp only [at0_mk, Int.toNat_natCast]
    refine ⟨by omega, by omega, ?_⟩
    refine Ld.of (hc 0 _ (by decide) rfl) ?_
    rw [AsI_int]
    refine Ld.of (hc 1 _ (by decide) rfl) ?_
    rw [AsI_int]
    refine Ld.of (hc 2 _ (by decide) rfl) ?_
    rw [AsI_int]
    refine Ld.of (hc 3 _ (by decide) rfl) ?_
    rw [AsI_int]
    refine Ld.of (hc 4 _ (by decide) rfl) ?_
    rw [AsI_int]
    refine Ret.use (f20 hP3 hT3 hd o.k o.f o.n o.al o.y hok.f hok.n) ?_
    rintro v w4 ⟨r, e, p', rfl, hst, hP4, hf4⟩
    simp only [AsTup_tuple, UnC_cons, UnN_nil, AsI_int]
    rw [w64 (n := (i : Int) + 1) (by omega) (by omega)]
    obtain ⟨s1, s2⟩ := hst.same
    refine ⟨⟨i + 1, p', rfl, by omega, by omega, by omega, hP4, Fr.news hf3 hf4 hown⟩, ?_⟩
    show n - ((i : Int) + 1).toNat < n - (i : Int).toNat
    omega
  subst hpf hpl
  refine Ret.use (f21 hP3) ?_
  rintro v w4 ⟨lq, lc, rfl, sl4, hf4⟩
  rw [AsSl_slice]
  refine Ret.use (f22 x 40 (by decide) (by decide)) ?_
  rintro v w5 ⟨rfl, hw⟩
  obtain rfl := hw.symm
  rw [AsI_int]
  have g3 : 0 ≤ x % 40 ∧ x % 40 < 40 := by omega
  obtain ⟨N, hNn⟩ : ∃ N : Nat, x % 40 = N := ⟨(x % 40).toNat, by omega⟩
  rw [hNn] at g3 ⊢
  have g4 : 0 ≤ al % 13 ∧ al % 13 < 13 := by omega
  obtain ⟨z, hz⟩ : ∃ z : Nat, al % 13 = z := ⟨(al % 13).toNat, by omega⟩
  rw [hz] at g4
  have hf04 := hf3.trans hf4
  have hP4 := hP3.fr0 hf4
  have hT4 := hT3.fr0 hf4
  refine Loop.by (fun s w' => ∃ (i : Nat), s = [.int .i64 (i : Int), .int .i64 ((2 ^ i : Nat) : Int)] ∧ i ≤ z ∧ w' = w4)
    (fun s _ => match s with | [.int _ k, _] => z - k.toNat | _ => 0)
    ⟨0, rfl, by omega, rfl⟩ ?_
  rintro _ w5 ⟨j, rfl, hj, hw⟩
  obtain rfl := hw.symm
  simp only [UnC_cons, UnN_nil, AsI_int]
  refine Ret.use (f22 al 13 (by decide) (by decide)) ?_
  rintro v w5 ⟨rfl, hw⟩
  obtain rfl := hw.symm
  rw [AsI_int, hz]
  obtain ⟨pw1, pw2⟩ := pow2_ok j (by omega)
  have hpow : 0 < 2 ^ j := Nat.pow_pos (by decide)
  generalize hD : 2 ^ j = D at *
  refine BIf_cases (fun hlt => ?_) (fun hge => ?_)
  · rw [w64 (n := (j : Int) + 1) (by omega) (by omega), w64 (n := (2 : Int) * (D : Int)) (by omega) (by omega)]
    refine ⟨⟨j + 1, ?_, by omega, by trivial⟩, ?_⟩
    · have : (2 : Int) * (D : Int) = ((2 ^ (j + 1) : Nat) : Int) := by rw [Nat.pow_succ, hD]; omega
      rw [this]; rfl
    · show z - ((j : Int) + 1).toNat < z - (j : Int).toNat
      omega
  have hbad : ¬ badTake (1 + (N : Int)) (D : Int) := by
    unfold badTake; rw [Int.toNat_natCast, pw1]; simp; omega
  have hL := hP3.ok.le
  have tl : ∀ want : Int, ((want = -1 ∧ ∀ a, ¬ Fit p.first p.u (1 + N) D a) ∨ ∃ a : Nat, want = (p.first + a : Nat) ∧ Fit p.first p.u (1 + N) D a ∧ ∀ a', a' < a → ¬ Fit p.first p.u (1 + N) D a') →
      F4tail (some ⟨b, 0, none⟩) (p.first : Int) (p.u.length : Int) (N : Int) (D : Int) want lq p.u.length lc w4 fun v w' => v = .bool true ∧ Fr0 w w' := by
    intro want hw
    refine f4tail hP4 hT4 hd sl4.rd (fun y hy => ?_) N (by omega) D want hbad (by rw [Int.toNat_natCast]; exact hw) hf04 hb
    have := (sl4.lt y hy).1
    have l1 := hP3.st.lt; have l2 := hP3.us.lt
    obtain ⟨ws, _, hws⟩ := hP3.ws
    have l3 := hws.lt
    unfold Own; omega
  refine Loop.by (fun s w' => ∃ (f : Nat) (want : Int), s = [.int .i64 (f : Int), .int .i64 want] ∧ p.first ≤ f ∧ f ≤ p.first + p.u.length + 1 ∧
      ((want = -1 ∧ ∀ a, p.first + a < f → ¬ Fit p.first p.u (1 + N) D a) ∨ ∃ a : Nat, want = (p.first + a : Nat) ∧ Fit p.first p.u (1 + N) D a ∧ ∀ a', a' < a → ¬ Fit p.first p.u (1 + N) D a') ∧ w' = w4)
    (fun s _ => match s with | [.int _ f, _] => p.first + p.u.length + 2 - f.toNat | _ => 0)
    ⟨p.first, -1, rfl, by omega, by omega, .inl ⟨rfl, fun a ha => by omega⟩, rfl⟩ ?_
  rintro _ w5 ⟨f, want, rfl, hf1', hf2', hwant, hw⟩
  obtain rfl := hw.symm
  simp only [UnC_cons, UnN_nil, AsI_int]
  rw [w64 (n := (1 : Int) + (N : Int)) (by omega) (by omega), w64 (n := (f : Int) + (1 + (N : Int))) (by omega) (by omega), w64 (n := (p.first : Int) + (p.u.length : Int)) (by omega) (by omega)]
  refine BIf_cases (fun hlt => ?_) (fun hge => ?_)
  rotate_left
  · have := tl want (hwant.imp (fun ⟨h1, h2⟩ => ⟨h1, fun a hfit => by have := hfit.2.1; exact h2 a (by omega) hfit⟩) id)
    unfold F4tail at this
    rw [w64 (n := (1 : Int) + (N : Int)) (by omega) (by omega)] at this
    exact this
  refine BIf_cases (fun hneg => ?_) (fun hpos => ?_)
  rotate_left
  · have := tl want (hwant.imp (fun ⟨h1, h2⟩ => by omega) id)
    unfold F4tail at this
    rw [w64 (n := (1 : Int) + (N : Int)) (by omega) (by omega)] at this
    exact this
  refine Join.triv ?_
  refine NZ.mk (by omega) ?_
  obtain ⟨rfl, hno⟩ : want = -1 ∧ ∀ a, p.first + a < f → ¬ Fit p.first p.u (1 + N) D a := by
    rcases hwant with h | ⟨a, h, _⟩
    · exact h
    · omega
  obtain ⟨a, rfl⟩ : ∃ a, f = p.first + a := ⟨f - p.first, by omega⟩
  have etm : ((p.first + a : Nat) : Int).tmod (D : Int) = (((p.first + a) % D : Nat) : Int) := by rw [IntWalk.rem_in _ _ (by omega)]; omega
  rw [etm, w64 (n := ((p.first + a : Nat) : Int) - (p.first : Int)) (by omega) (by omega), w64 (n := ((p.first + a : Nat) : Int) + 1) (by omega) (by omega)]
  have hmeas : ∀ wt : Int, (match [Value.int .i64 (((p.first + a : Nat) : Int) + 1), .int .i64 wt] with | [.int _ f, _] => p.first + p.u.length + 2 - f.toNat | _ => 0) < p.first + p.u.length + 2 - ((p.first + a : Nat) : Int).toNat := by
    intro wt; show p.first + p.u.length + 2 - (((p.first + a : Nat) : Int) + 1).toNat < _; omega
  have yes : Fit p.first p.u (1 + N) D a → (∃ (f : Nat) (want : Int), [Value.int .i64 (((p.first + a : Nat) : Int) + 1), .int .i64 ((p.first + a : Nat) : Int)] = [.int .i64 (f : Int), .int .i64 want] ∧ p.first ≤ f ∧ f ≤ p.first + p.u.length + 1 ∧
      ((want = -1 ∧ ∀ a, p.first + a < f → ¬ Fit p.first p.u (1 + N) D a) ∨ ∃ a : Nat, want = (p.first + a : Nat) ∧ Fit p.first p.u (1 + N) D a ∧ ∀ a', a' < a → ¬ Fit p.first p.u (1 + N) D a') ∧ True) := by
    intro hfit
    exact ⟨p.first + a + 1, _, rfl, by omega, by omega, .inr ⟨a, rfl, hfit, fun a' ha => hno a' (by omega)⟩, trivial⟩
  have no : ¬ Fit p.first p.u (1 + N) D a → (∃ (f : Nat) (want : Int), [Value.int .i64 (((p.first + a : Nat) : Int) + 1), .int .i64 (-1)] = [.int .i64 (f : Int), .int .i64 want] ∧ p.first ≤ f ∧ f ≤ p.first + p.u.length + 1 ∧
      ((want = -1 ∧ ∀ a, p.first + a < f → ¬ Fit p.first p.u (1 + N) D a) ∨ ∃ a : Nat, want = (p.first + a : Nat) ∧ Fit p.first p.u (1 + N) D a ∧ ∀ a', a' < a → ¬ Fit p.first p.u (1 + N) D a') ∧ True) := by
    intro hfit
    refine ⟨p.first + a + 1, _, rfl, by omega, by omega, .inl ⟨rfl, fun a' ha => ?_⟩, trivial⟩
    by_cases e : a' = a
    · subst e; exact hfit
    · exact hno a' (by omega)
  refine Loop.by (fun s w' => ∃ (k : Nat) (ok : Bool), s = [.int .i64 (k : Int), .bool ok] ∧ k ≤ 1 + N ∧ (ok = true → (p.first + a) % D = 0 ∧ ∀ x, a ≤ x → x < a + k → p.u.getD x 0 = 0) ∧ (ok = false → ¬ Fit p.first p.u (1 + N) D a) ∧ w' = w4)
    (fun s _ => match s with | [.int _ k, _] => 1 + N - k.toNat | _ => 0)
    ⟨0, _, rfl, by omega, fun h => ⟨?_, fun x h1 h2 => by omega⟩, fun h hfit => ?_, rfl⟩ ?_
  · have : (((p.first + a) % D : Nat) : Int) = 0 := by simpa using h
    omega
  · have h1 := hfit.1
    rw [h1] at h; simp at h
  rintro _ w5 ⟨k, ok, rfl, hk, hy, hnn, hw⟩
  obtain rfl := hw.symm
  simp only [UnC_cons, UnN_nil, AsI_int, AsB_bool]
  refine BIf_cases (fun hlt => ?_) (fun hge => ?_)
  · refine BIf_b (fun hok => ?_) (fun hok => ?_)
    · obtain ⟨y1, y2⟩ := hy hok
      rw [w64 (n := ((p.first + a : Nat) : Int) - (p.first : Int) + (k : Int)) (by omega) (by omega), w64 (n := (k : Int) + 1) (by omega) (by omega)]
      have hrd := sl4.rd
      rw [i64n_eq] at hrd
      have hlt2 : a + k < p.u.length := by omega
      have e2 : (((p.first + a : Nat) : Int) - (p.first : Int) + (k : Int)).toNat = a + k := by omega
      refine hrd.int (by rw [List.length_map]) (by omega) (x := ((p.u[a + k] : Nat) : Int)) (by rw [e2, List.getElem?_map, List.getElem?_eq_getElem hlt2]; rfl) ?_
      refine ⟨⟨k + 1, _, rfl, by omega, fun h => ⟨y1, fun x h1 h2 => ?_⟩, fun h hfit => ?_, by trivial⟩, ?_⟩
      · by_cases e : x = a + k
        · subst e
          rw [getD_get hlt2]
          have : ((p.u[a + k] : Nat) : Int) = 0 := by simpa using h
          omega
        · exact y2 x h1 (by omega)
      · have := hfit.2.2 (a + k) (by omega) (by omega)
        rw [getD_get hlt2] at this
        rw [this] at h; simp at h
      · show 1 + N - ((k : Int) + 1).toNat < 1 + N - (k : Int).toNat
        omega
    · subst hok
      rw [BIf_false]
      exact ⟨no (hnn rfl), hmeas (-1)⟩
  · refine BIf_b (fun hok => ?_) (fun hok => ?_)
    · obtain ⟨y1, y2⟩ := hy hok
      exact ⟨yes ⟨y1, by omega, fun x h1 h2 => y2 x h1 (by omega)⟩, hmeas ((p.first + a : Nat) : Int)⟩
    · exact ⟨no (hnn hok), hmeas (-1)⟩
end Go.Proofs.YthpodlcbikialaaDoor
