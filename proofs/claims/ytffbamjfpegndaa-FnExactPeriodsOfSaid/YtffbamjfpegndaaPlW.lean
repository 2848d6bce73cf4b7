
/- Plain facts on subgroups: all of them are generated step by step, and each is the sum of three cyclic ones. No program in sight. No conditions. -/
import Derived.Test.YtffbamjfpegndaaPlV
namespace Go.Proofs.Ytffbamjfpegndaa
set_option linter.unusedVariables false
set_option linter.unusedSimpArgs false
set_option linter.unusedSectionVars false

def IsSubN (l : List Int) (H : Nat) : Prop := H < topOf l ∧ genN l H = H
theorem gadd_mid (l : List Int) (hb : Big l) (x y u v : Int) : gadd l (gadd l x y) (gadd l u v) = gadd l (gadd l x u) (gadd l y v) := by
  rw [gadd_assoc l x y _ hb, ← gadd_assoc l y u v hb, gadd_comm l y u, gadd_assoc l u y v hb, ← gadd_assoc l x u _ hb]
section
variable {l : List Int} (hg : isGroup l = true)
include hg
theorem isSubN_iff (H : Nat) : IsSubN l H ↔ H < topOf l ∧ inS H 0 ∧ ∀ x y, inS H x → inS H y → inS H (gadd l x y) := by
  constructor
  · rintro ⟨h1, h2⟩
    have h := genN_iff hg (top_24 hg h1)
    rw [h2] at h
    exact ⟨h1, (h 0).2 .zero, fun x y hx hy => (h _).2 (Gen.add hg ((h x).1 hx) ((h y).1 hy))⟩
  · rintro ⟨h1, h2, h3⟩
    refine ⟨h1, set_ext fun z => ?_⟩
    rw [genN_iff hg (top_24 hg h1)]
    constructor
    · intro hz
      induction hz with
      | zero => exact h2
      | step _ ha ih => exact h3 _ _ ih ha
    · intro hz
      exact Gen.one hg hz (of_top hg h1 hz).2
theorem IsSubN.gen {H : Nat} (h : IsSubN l H) (z : Int) : inS H z ↔ Gen l H z := by
  have := genN_iff hg (top_24 hg h.1) z
  rw [h.2] at this
  exact this
theorem IsSubN.zero {H : Nat} (h : IsSubN l H) : inS H 0 := ((isSubN_iff hg H).1 h).2.1
theorem IsSubN.add {H : Nat} (h : IsSubN l H) {x y : Int} (hx : inS H x) (hy : inS H y) : inS H (gadd l x y) := ((isSubN_iff hg H).1 h).2.2 x y hx hy
theorem IsSubN.neg {H : Nat} (h : IsSubN l H) {x : Int} (hx : inS H x) : inS H (gneg l x) := (IsSubN.gen hg h _).2 (Gen.neg hg ((IsSubN.gen hg h _).1 hx))
theorem IsSubN.mul {H : Nat} (h : IsSubN l H) {x : Int} (hx : inS H x) (n : Nat) : inS H (gmul l n x) := (IsSubN.gen hg h _).2 (Gen.mul hg ((IsSubN.gen hg h _).1 hx) n)
/-- what lies in a subgroup generates no more -/
theorem IsSubN.least {H A : Nat} (h : IsSubN l H) (hA : ∀ z, inS A z → inS H z) {z : Int} (hz : Gen l A z) : inS H z := by
  induction hz with
  | zero => exact IsSubN.zero hg h
  | step _ ha ih => exact IsSubN.add hg h ih (hA _ ha)
theorem genN_isSub {A : Nat} (hA : A < 16777216) : IsSubN l (genN l A) := by
  rw [isSubN_iff hg]
  refine ⟨genN_top hg hA, (genN_iff hg hA 0).2 .zero, fun x y hx hy => ?_⟩
  rw [genN_iff hg hA] at hx hy ⊢
  exact Gen.add hg hx hy
theorem genN_has {A : Nat} (hA : A < topOf l) {z : Int} (hz : inS A z) : inS (genN l A) z := (genN_iff hg (top_24 hg hA) z).2 (Gen.one hg hz (of_top hg hA hz).2)
theorem sub_one : IsSubN l 1 := by
  rw [isSubN_iff hg]
  have hp := isGroup.prod hg
  refine ⟨by have := (topOf_bd hg).1; omega, (inS_one 0).2 rfl, fun x y hx hy => ?_⟩
  rw [(inS_one x).1 hx, (inS_one y).1 hy, gadd_zero l 0 (isGroup.big hg) (by omega) (by omega)]
  exact (inS_one 0).2 rfl
theorem sub_sum {H K : Nat} (hH : IsSubN l H) (hK : IsSubN l K) : IsSubN l (sumN l H K) := by
  have h1 := top_24 hg hH.1
  have h2 := top_24 hg hK.1
  have hb := isGroup.big hg
  have hp := isGroup.prod hg
  rw [isSubN_iff hg]
  refine ⟨sumN_top hg H K, (inS_sumN hg h1 h2 0).2 ⟨0, 0, IsSubN.zero hg hH, IsSubN.zero hg hK, gadd_zero l 0 hb (by omega) (by omega)⟩, fun x y hx hy => ?_⟩
  rw [inS_sumN hg h1 h2] at hx hy ⊢
  obtain ⟨a, b, ha, hb1, rfl⟩ := hx
  obtain ⟨c, d, hc, hd, rfl⟩ := hy
  exact ⟨_, _, IsSubN.add hg hH ha hc, IsSubN.add hg hK hb1 hd, (gadd_mid l hb a b c d).symm⟩
theorem sub_and {H K : Nat} (hH : IsSubN l H) (hK : IsSubN l K) : IsSubN l (H &&& K) := by
  rw [isSubN_iff hg]
  refine ⟨Nat.lt_of_le_of_lt Nat.and_le_left hH.1, (inS_and _ _ _).2 ⟨IsSubN.zero hg hH, IsSubN.zero hg hK⟩, fun x y hx hy => ?_⟩
  rw [inS_and] at hx hy ⊢
  exact ⟨IsSubN.add hg hH hx.1 hy.1, IsSubN.add hg hK hx.2 hy.2⟩
theorem sub_pow_lt {H : Nat} (hH : IsSubN l H) {x : Nat} (hx : (x : Int) < prodL l) : H ||| 2 ^ x < topOf l := by
  refine top_of hg fun z hz => ?_
  rcases (inS_or _ _ _).1 hz with h | h
  · exact (of_top hg hH.1 h).2
  · rw [show 2 ^ x = 2 ^ ((x : Int)).toNat by rw [Int.toNat_natCast], inS_pow (by omega)] at h
    omega
/-- a collection with {0} that is closed under one more element holds all subgroups -/
theorem all_subs {L : Nat → Prop} (h1 : L 1) (hc : ∀ H, L H → ∀ x : Nat, (x : Int) < prodL l → L (genN l (H ||| 2 ^ x))) (hs : ∀ H, L H → IsSubN l H) {K : Nat} (hK : IsSubN l K) : L K := by
  have gen : ∀ m : Nat, (m : Int) ≤ prodL l → ∃ H, L H ∧ (∀ z, inS H z → inS K z) ∧ ∀ z, inS K z → z < m → inS H z := by
    intro m
    induction m with
    | zero =>
      intro _
      refine ⟨1, h1, fun z hz => ?_, fun z hz hlt => ?_⟩
      · rw [(inS_one z).1 hz]; exact IsSubN.zero hg hK
      · have := hz.1; omega
    | succ m ih =>
      intro hm
      obtain ⟨H, hL, hsub, hall⟩ := ih (by omega)
      by_cases hin : inS K m
      · have hx : (m : Int) < prodL l := by omega
        have hlt := sub_pow_lt hg (hs H hL) hx
        have hpow : ∀ z, inS (2 ^ m) z ↔ z = m := fun z => by
          rw [show 2 ^ m = 2 ^ ((m : Int)).toNat by rw [Int.toNat_natCast]]
          exact inS_pow (by omega) z
        refine ⟨_, hc H hL m hx, fun z hz => ?_, fun z hz hzm => ?_⟩
        · refine IsSubN.least hg hK (fun u hu => ?_) ((genN_iff hg (top_24 hg hlt) z).1 hz)
          rcases (inS_or _ _ _).1 hu with h | h
          · exact hsub u h
          · rw [(hpow u).1 h]; exact hin
        · refine genN_has hg hlt ((inS_or _ _ _).2 ?_)
          by_cases he : z = m
          · exact .inr ((hpow z).2 he)
          · exact .inl (hall z hz (by omega))
      · refine ⟨H, hL, hsub, fun z hz hzm => hall z hz ?_⟩
        by_cases he : z = m
        · rw [he] at hz; exact absurd hz hin
        · omega
  have hp := isGroup.prod hg
  obtain ⟨H, hL, hsub, hall⟩ := gen (prodL l).toNat (by omega)
  have : H = K := set_ext fun z => ⟨hsub z, fun hz => hall z hz (by have := (of_top hg hK.1 hz).2; omega)⟩
  rw [← this]
  exact hL
end

/-! ### three generators -/
def comb (l : List Int) : List Nat → List Int → Int
  | n :: ns, g :: gs => gadd l (gmul l n g) (comb l ns gs)
  | _, _ => 0
theorem gmul_lift {o : Int} (r : List Int) (ho : 2 ≤ o) (n y : Int) : gmul (o :: r) n (o * y) = o * gmul r n y := by
  rw [gmul, Int.mul_emod_right, Int.mul_zero, Int.zero_emod, Int.mul_ediv_cancel_left _ (by omega)]
  omega
theorem gadd_lift {o : Int} (r : List Int) (ho : 2 ≤ o) (x y : Int) : gadd (o :: r) (o * x) (o * y) = o * gadd r x y := by
  rw [gadd, Int.mul_emod_right, Int.mul_emod_right, Int.mul_ediv_cancel_left _ (by omega), Int.mul_ediv_cancel_left _ (by omega)]
  simp
theorem gneg_lift {o : Int} (r : List Int) (ho : 2 ≤ o) (x : Int) : gneg (o :: r) (o * x) = o * gneg r x := by
  rw [gneg, Int.mul_emod_right, Int.mul_ediv_cancel_left _ (by omega)]
  simp
theorem comb_lift {o : Int} (r : List Int) (ho : 2 ≤ o) : ∀ (ns : List Nat) (gs : List Int), comb (o :: r) ns (gs.map (o * ·)) = o * comb r ns gs := by
  intro ns
  induction ns with
  | nil => intro gs; cases gs <;> simp [comb]
  | cons n ns ih =>
    intro gs
    cases gs with
    | nil => simp [comb]
    | cons g gs => rw [List.map_cons, comb, comb, ih, gmul_lift r ho, gadd_lift r ho]
/-- the least of some numbers above 0 -/
theorem least_of (P : Nat → Prop) : ∀ n, P n → ∃ m, P m ∧ ∀ k, P k → m ≤ k := by
  intro n
  induction n using Nat.strongRecOn with
  | ind n ih =>
    intro hn
    by_cases h : ∃ k, P k ∧ k < n
    · obtain ⟨k, hk, hlt⟩ := h
      exact ih k hlt hk
    · refine ⟨n, hn, fun k hk => ?_⟩
      rcases Nat.lt_or_ge k n with h1 | h1
      · exact absurd ⟨k, hk, h1⟩ h
      · exact h1
theorem gens (l : List Int) : Big l → ∀ S : Int → Prop, S 0 → (∀ x y, S x → S y → S (gadd l x y)) → (∀ x, S x → S (gneg l x)) → (∀ (n : Nat) x, S x → S (gmul l n x)) → (∀ x, S x → 0 ≤ x ∧ x < prodL l) →
    ∃ gs : List Int, gs.length = l.length ∧ (∀ g ∈ gs, S g) ∧ ∀ x, S x → ∃ ns : List Nat, ns.length = l.length ∧ x = comb l ns gs := by
  induction l with
  | nil =>
    intro _ S _ _ _ _ hbd
    refine ⟨[], rfl, (fun g hg => by cases hg), fun x hx => ⟨[], rfl, ?_⟩⟩
    have := hbd x hx
    rw [prodL_nil] at this
    show x = 0
    omega
  | cons o r ih =>
    intro hb S h0 hadd hneg hmul hbd
    have ho := hb.head
    have hpr := prodL_pos hb.tail
    -- the elements whose first place is 0
    obtain ⟨gs, hlen, hgs, hall⟩ := ih hb.tail (fun y => S (o * y) ∧ 0 ≤ y ∧ y < prodL r) ⟨by rw [Int.mul_zero]; exact h0, by omega, by omega⟩
      (fun x y hx hy => ⟨by rw [← gadd_lift r ho]; exact hadd _ _ hx.1 hy.1, gadd_bd r x y hb.tail⟩)
      (fun x hx => ⟨by rw [← gneg_lift r ho]; exact hneg _ hx.1, gneg_bd r x hb.tail⟩)
      (fun n x hx => ⟨by rw [← gmul_lift r ho]; exact hmul _ _ hx.1, gmul_bd r n x hb.tail⟩) (fun x hx => hx.2)
    have fin : ∀ h, S h → (∀ x, S x → ∃ q : Nat, S (gadd (o :: r) x (gneg (o :: r) (gmul (o :: r) q h))) ∧ gadd (o :: r) x (gneg (o :: r) (gmul (o :: r) q h)) % o = 0) →
        ∃ gs : List Int, gs.length = (o :: r).length ∧ (∀ g ∈ gs, S g) ∧ ∀ x, S x → ∃ ns : List Nat, ns.length = (o :: r).length ∧ x = comb (o :: r) ns gs := by
      intro h hh hq
      refine ⟨h :: gs.map (o * ·), by simp [hlen], fun g hg => ?_, fun x hx => ?_⟩
      · rcases List.mem_cons.1 hg with rfl | hg
        · exact hh
        · obtain ⟨y, hy, rfl⟩ := List.mem_map.1 hg
          exact (hgs y hy).1
      · obtain ⟨q, hk, hk0⟩ := hq x hx
        obtain ⟨k, hK⟩ : ∃ k, k = gadd (o :: r) x (gneg (o :: r) (gmul (o :: r) q h)) := ⟨_, rfl⟩
        rw [← hK] at hk hk0
        have hkd : o * (k / o) = k := by have := Int.mul_ediv_add_emod k o; omega
        have hkb := hbd k hk
        have hk2 : S (o * (k / o)) ∧ 0 ≤ k / o ∧ k / o < prodL r := by
          refine ⟨by rw [hkd]; exact hk, Int.ediv_nonneg hkb.1 (by omega), ?_⟩
          rw [prodL_cons] at hkb
          exact div_lt_of (by omega) hkb.2
        obtain ⟨ns, hns, he⟩ := hall _ hk2
        refine ⟨q :: ns, by simp [hns], ?_⟩
        rw [comb, comb_lift r ho, ← he, hkd, hK]
        have hxb := hbd x hx
        rw [gadd_comm (o :: r) x, ← gadd_assoc (o :: r) _ _ _ hb, gadd_neg (o :: r) _ hb, gadd_comm, gadd_zero (o :: r) x hb hxb.1 hxb.2]
    by_cases hd : ∃ x, S x ∧ x % o ≠ 0
    · obtain ⟨x0, hx0, hne⟩ := hd
      have hm0 := emod_bd x0 ho
      obtain ⟨d, ⟨hdp, h, hh, hhd⟩, hmin⟩ := least_of (fun d => 0 < d ∧ ∃ x, S x ∧ x % o = (d : Int)) (x0 % o).toNat ⟨by omega, x0, hx0, by omega⟩
      refine fin h hh fun x hx => ?_
      have hm := emod_bd x ho
      have hhm := emod_bd h ho
      refine ⟨((x % o) / d).toNat, hadd _ _ hx (hneg _ (hmul _ _ hh)), ?_⟩
      have hk : S (gadd (o :: r) x (gneg (o :: r) (gmul (o :: r) (((x % o) / d).toNat : Nat) h))) := hadd _ _ hx (hneg _ (hmul _ _ hh))
      have hq0 : 0 ≤ (x % o) / d := Int.ediv_nonneg hm.1 (by omega)
      have eq1 : ((((x % o) / d).toNat : Nat) : Int) = (x % o) / d := by omega
      rw [eq1] at hk ⊢
      have hdiv := Int.mul_ediv_add_emod (x % o) d
      have hr : 0 ≤ (x % o) % (d : Int) ∧ (x % o) % (d : Int) < d := ⟨Int.emod_nonneg _ (by omega), Int.emod_lt_of_pos _ (by omega)⟩
      obtain ⟨q, hQ⟩ : ∃ q, q = (x % o) / d := ⟨_, rfl⟩
      rw [← hQ] at hk hdiv ⊢
      have hqd : 0 ≤ q * (d : Int) := Int.mul_nonneg (by omega) (by omega)
      have hqd2 : q * (d : Int) ≤ x % o := by rw [Int.mul_comm]; omega
      -- the first place of the rest
      have e1 : gmul (o :: r) q h % o = q * (d : Int) := by
        rw [gmul, (digit_mod ho (emod_bd _ ho)).1, hhd]
        exact Int.emod_eq_of_lt hqd (by omega)
      have e2 : gneg (o :: r) (gmul (o :: r) q h) % o = (o - q * (d : Int)) % o := by
        rw [gneg, (digit_mod ho (emod_bd _ ho)).1, e1]
      have e3 : gadd (o :: r) x (gneg (o :: r) (gmul (o :: r) q h)) % o = (x % o) % d := by
        rw [gadd, (digit_mod ho (emod_bd _ ho)).1, e2, Int.add_emod_emod, show x % o + (o - q * (d : Int)) = (x % o - q * (d : Int)) + o by omega, Int.add_emod_right]
        rw [Int.emod_eq_of_lt (by omega) (by omega), Int.mul_comm]
        omega
      rw [e3]
      by_cases h0' : (x % o) % d = 0
      · exact h0'
      · have := hmin ((x % o) % d).toNat ⟨by omega, _, hk, by omega⟩
        omega
    · refine fin 0 h0 fun x hx => ⟨0, hadd _ _ hx (hneg _ (hmul _ _ h0)), ?_⟩
      have hk : S (gadd (o :: r) x (gneg (o :: r) (gmul (o :: r) ((0 : Nat) : Int) 0))) := hadd _ _ hx (hneg _ (hmul _ _ h0))
      by_cases hz : gadd (o :: r) x (gneg (o :: r) (gmul (o :: r) ((0 : Nat) : Int) 0)) % o = 0
      · exact hz
      · exact absurd ⟨_, hk, hz⟩ hd
/-- what one element generates -/
def cycN (l : List Int) (x : Int) : Nat := genN l (2 ^ x.toNat)
section
variable {l : List Int} (hg : isGroup l = true)
include hg
theorem pow_top {x : Int} (h0 : 0 ≤ x) (h : x < prodL l) : 2 ^ x.toNat < topOf l := top_of hg fun z hz => by rw [(inS_pow h0 z).1 hz]; exact h
theorem cyc_sub {x : Int} (h0 : 0 ≤ x) (h : x < prodL l) : IsSubN l (cycN l x) := genN_isSub hg (top_24 hg (pow_top hg h0 h))
theorem cyc_mul {x : Int} (h0 : 0 ≤ x) (h : x < prodL l) (n : Nat) : inS (cycN l x) (gmul l n x) := IsSubN.mul hg (cyc_sub hg h0 h) (genN_has hg (pow_top hg h0 h) ((inS_pow h0 x).2 rfl)) n
theorem cyc_least {K : Nat} (hK : IsSubN l K) {x : Int} (hx : inS K x) {z : Int} (hz : inS (cycN l x) z) : inS K z := by
  have hb := of_top hg hK.1 hx
  refine IsSubN.least hg hK (fun u hu => ?_) ((genN_iff hg (top_24 hg (pow_top hg hb.1 hb.2)) z).1 hz)
  rw [(inS_pow hb.1 u).1 hu]
  exact hx
/-- each subgroup is the sum of three cyclic ones -/
theorem three_cyc {K : Nat} (hK : IsSubN l K) : ∃ a b c : Int, (0 ≤ a ∧ a < prodL l) ∧ (0 ≤ b ∧ b < prodL l) ∧ (0 ≤ c ∧ c < prodL l) ∧ K = sumN l (sumN l (cycN l a) (cycN l b)) (cycN l c) := by
  have hb := isGroup.big hg
  have hp := isGroup.prod hg
  obtain ⟨gs, hlen, hgs, hall⟩ := gens l hb (inS K) (IsSubN.zero hg hK) (fun _ _ => IsSubN.add hg hK) (fun _ => IsSubN.neg hg hK) (fun n _ h => IsSubN.mul hg hK h n) (fun _ h => of_top hg hK.1 h)
  have fin : ∀ a b c : Int, inS K a → inS K b → inS K c → (∀ x, inS K x → ∃ m n k : Nat, x = gadd l (gadd l (gmul l m a) (gmul l n b)) (gmul l k c)) → ∃ a b c : Int, (0 ≤ a ∧ a < prodL l) ∧ (0 ≤ b ∧ b < prodL l) ∧ (0 ≤ c ∧ c < prodL l) ∧ K = sumN l (sumN l (cycN l a) (cycN l b)) (cycN l c) := by
    intro a b c ha hb1 hc h
    have ba := of_top hg hK.1 ha
    have bb := of_top hg hK.1 hb1
    have bc := of_top hg hK.1 hc
    have la := top_24 hg (cyc_sub hg ba.1 ba.2).1
    have lb := top_24 hg (cyc_sub hg bb.1 bb.2).1
    have lc := top_24 hg (cyc_sub hg bc.1 bc.2).1
    refine ⟨a, b, c, ba, bb, bc, set_ext fun z => ?_⟩
    rw [inS_sumN hg (sumN_lt hg _ _) lc]
    constructor
    · intro hz
      obtain ⟨m, n, k, rfl⟩ := h z hz
      exact ⟨_, _, (inS_sumN hg la lb _).2 ⟨_, _, cyc_mul hg ba.1 ba.2 m, cyc_mul hg bb.1 bb.2 n, rfl⟩, cyc_mul hg bc.1 bc.2 k, rfl⟩
    · rintro ⟨x, y, hx, hy, rfl⟩
      obtain ⟨u, v, hu, hv, rfl⟩ := (inS_sumN hg la lb _).1 hx
      exact IsSubN.add hg hK (IsSubN.add hg hK (cyc_least hg hK ha hu) (cyc_least hg hK hb1 hv)) (cyc_least hg hK hc hy)
  have z0 := IsSubN.zero hg hK
  have gz : ∀ u, 0 ≤ u → u < prodL l → gadd l u 0 = u := fun u h1 h2 => gadd_zero l u hb h1 h2
  have mz : ∀ u, gmul l ((0 : Nat) : Int) u = 0 := fun u => gmul_zero l u
  have mb := fun n u => gmul_bd l n u hb
  have l3 := isGroup.len hg
  match gs, hlen with
  | [], hl =>
    refine fin 0 0 0 z0 z0 z0 fun x hx => ⟨0, 0, 0, ?_⟩
    obtain ⟨ns, hns, rfl⟩ := hall x hx
    rw [mz, gz 0 (by omega) (by omega), gz 0 (by omega) (by omega)]
    cases ns <;> rfl
  | [a], hl =>
    refine fin a 0 0 (hgs a (by simp)) z0 z0 fun x hx => ?_
    obtain ⟨ns, hns, rfl⟩ := hall x hx
    match ns, hns.trans hl.symm with
    | [n], _ =>
      refine ⟨n, 0, 0, ?_⟩
      have := mb n a
      rw [mz, gz _ this.1 this.2, gz _ this.1 this.2]
      show gadd l (gmul l n a) 0 = _
      rw [gz _ this.1 this.2]
  | [a, b], hl =>
    refine fin a b 0 (hgs a (by simp)) (hgs b (by simp)) z0 fun x hx => ?_
    obtain ⟨ns, hns, rfl⟩ := hall x hx
    match ns, hns.trans hl.symm with
    | [n, m], _ =>
      refine ⟨n, m, 0, ?_⟩
      have h1 := mb m b
      have h2 := gadd_bd l (gmul l n a) (gmul l m b) hb
      rw [mz, gz _ h2.1 h2.2]
      show gadd l (gmul l n a) (gadd l (gmul l m b) 0) = _
      rw [gz _ h1.1 h1.2]
  | [a, b, c], hl =>
    refine fin a b c (hgs a (by simp)) (hgs b (by simp)) (hgs c (by simp)) fun x hx => ?_
    obtain ⟨ns, hns, rfl⟩ := hall x hx
    match ns, hns.trans hl.symm with
    | [n, m, k], _ =>
      refine ⟨n, m, k, ?_⟩
      have h1 := mb k c
      show gadd l (gmul l n a) (gadd l (gmul l m b) (gadd l (gmul l k c) 0)) = _
      rw [gz _ h1.1 h1.2, gadd_assoc l _ _ _ hb]
  | _ :: _ :: _ :: _ :: _, hl => exact absurd hl (by simp; omega)
end
end Go.Proofs.Ytffbamjfpegndaa
