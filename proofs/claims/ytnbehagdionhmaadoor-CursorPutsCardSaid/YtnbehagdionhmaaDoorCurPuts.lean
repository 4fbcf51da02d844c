/- CursorPuts, walked. -/
import Derived.Test.YtnbehagdionhmaaDoorRPut
import Derived.Test.YtnbehagdionhmaaDoorReg
namespace Go.Proofs.YtnbehagdionhmaaDoor.Cur
open Go.RowKit Go.Proofs.YtnbehagdionhmaaDoor.Put

/-- What a Put answers, as a region meets it. -/
def Gives (v : Value) (w : World) (t : ByteArray) : Prop := ∀ W, Chg Nob w W → (convert 39 9 v).run Tryd.prog W = .ok (.string t) W
theorem gives_of {v : Value} {w : World} {l : List UInt8} (h : BytesAt w v l) : Gives v w ⟨l.toArray⟩ := fun _ hC => conv_bytes (h.nob hC)

/-- What is told of the slots of a region: a value, or that it gives bytes. -/
def Typed (sp : List (Value ⊕ ByteArray)) (j : Nat) (v : Value) (w : World) : Prop :=
  match sp[j]? with
  | some (.inl u) => v = u
  | some (.inr t) => Gives v w t
  | none => True
theorem typed_mono {sp : List (Value ⊕ ByteArray)} {j : Nat} {v : Value} {w w' : World} (hC : Chg Nob w w') (h : Typed sp j v w) : Typed sp j v w' := by
  unfold Typed at *
  split at h
  · exact h
  · exact fun W hW => h W (hC.trans hW)
  · trivial

set_option maxRecDepth 100000 in
set_option maxHeartbeats 8000000 in
theorem puts_any (v : Value) (l : List UInt8) (x y z : Nat) (w : World) (hx : x < 256) (hy : y < 65536) (hz : z < 4294967296) (hb : BytesAt w v l) (hg : As.Laid w) (hl : l.length ≤ 9223372036854775807) :
    Calls Tryd.prog 4 #[v, .int .u8 (x : Int), .int .u16 (y : Int), .int .u32 (z : Int)] w fun e w' => e = .returned (.bool true) ∧ Chg Nob w w' := by
  have HG := Lib.hid hg
  clear hg
  have x0 : (0 : Int) ≤ (x : Int) := by omega
  have x1 : (x : Int) ≤ 255 := by omega
  have y0 : (0 : Int) ≤ (y : Int) := by omega
  have y1 : (y : Int) ≤ 65535 := by omega
  have z0 : (0 : Int) ≤ (z : Int) := by omega
  have z1 : (z : Int) ≤ 4294967295 := by omega
  by_cases hbig : l.length ≤ 20000
  · have hcb := gives_of hb
    have hcb0 := hcb w (Chg.refl _ _)
    obtain ⟨s, hs⟩ : ∃ s : ByteArray, s = ⟨l.toArray⟩ := ⟨_, rfl⟩
    have hsz : s.size = l.length := by rw [hs]; rfl
    rw [← hs] at hcb hcb0
    have hk : ∀ m : List UInt8, ∃ a : ByteArray, a = ⟨m.toArray⟩ := fun m => ⟨_, rfl⟩
    obtain ⟨a1, ha1⟩ := hk (one x)
    obtain ⟨a2, ha2⟩ := hk (two y)
    obtain ⟨a4, ha4⟩ := hk (four z)
    obtain ⟨t1, ht1⟩ := hk (l ++ one x)
    obtain ⟨t2, ht2⟩ := hk (l ++ two y)
    obtain ⟨t4, ht4⟩ := hk (l ++ four z)
    have q1 : s ++ a1 = t1 := by rw [hs, ha1, ht1]; exact rstr_app _ _
    have q2 : s ++ a2 = t2 := by rw [hs, ha2, ht2]; exact rstr_app _ _
    have q4 : s ++ a4 = t4 := by rw [hs, ha4, ht4]; exact rstr_app _ _
    have b1 : ¬ 9223372036854775807 < s.size + a1.size := by rw [show a1.size = 1 by rw [ha1]; rfl]; omega
    have b2 : ¬ 9223372036854775807 < s.size + a2.size := by rw [show a2.size = 2 by rw [ha2]; rfl]; omega
    have b4 : ¬ 9223372036854775807 < s.size + a4.size := by rw [show a4.size = 4 by rw [ha4]; rfl]; omega
    have HP1 := Lib.hid (fun W (hW : Chg Nob w W) => (put1_any v l x W hx (hb.nob hW) (by omega)).mono fun e w' ⟨v1, h1, h2, h3⟩ => (⟨v1, h1, ht1 ▸ gives_of (BytesAt.of_own h2), h3⟩ : ∃ v1, e = Ending.returned v1 ∧ Gives v1 w' t1 ∧ Chg Nob W w'))
    have HP2 := Lib.hid (fun W (hW : Chg Nob w W) => (put2_any v l y W hy (hb.nob hW) (by omega)).mono fun e w' ⟨v1, h1, h2, h3⟩ => (⟨v1, h1, ht2 ▸ gives_of (BytesAt.of_own h2), h3⟩ : ∃ v1, e = Ending.returned v1 ∧ Gives v1 w' t2 ∧ Chg Nob W w'))
    have HP4 := Lib.hid (fun W (hW : Chg Nob w W) => (put4_any v l z W hz (hb.nob hW) (by omega)).mono fun e w' ⟨v1, h1, h2, h3⟩ => (⟨v1, h1, ht4 ▸ gives_of (BytesAt.of_own h2), h3⟩ : ∃ v1, e = Ending.returned v1 ∧ Gives v1 w' t4 ∧ Chg Nob W w'))
    have HR1 := Lib.hid (fun W => rput_any W x 1 (by omega) (by omega))
    have HR2 := Lib.hid (fun W => rput_any W y 2 (by omega) (by omega))
    have HR4 := Lib.hid (fun W => rput_any W z 4 (by omega) (by omega))
    rw [low_one, ← ha1] at HR1
    rw [low_two, ← ha2] at HR2
    rw [low_four, ← ha4] at HR4
    rw [show ((1 : Nat) : Int) = 1 from rfl] at HR1
    rw [show ((2 : Nat) : Int) = 2 from rfl] at HR2
    rw [show ((4 : Nat) : Int) = 4 from rfl] at HR4
    have HCB := Lib.hid hcb
    obtain ⟨a0, c0, rfl, _, _⟩ := hb
    have d1 : ¬ (20000 : Int) < (l.length : Int) := by omega
    generalize l.length = n at *
    clear ha1 ha2 ha4 ht1 ht2 ht4 hs hsz hk hcb hx hy hz
    go_enter Tryd.func4, Tryd.ntmps4
    go_upto_region 4 with fail
    clear hcb0
    have hcb := HCB.out
    have wx : IntKind.u64.wrap (x : Int) = (x : Int) := IntWalk.u64_in _ (by omega)
    have wy : IntKind.u64.wrap (y : Int) = (y : Int) := IntWalk.u64_in _ (by omega)
    have wz : IntKind.u64.wrap (z : Int) = (z : Int) := IntWalk.u64_in _ (by omega)
    have hTm : ∀ (j : Nat) (u : Value) (w w' : World), Chg Nob w w' → Typed [.inl (.slice a0 n c0), .inl (.int .u8 (x : Int)), .inr t1, .inl (.string t1), .inl (.string s), .inl (.int .u8 (x : Int)), .inl (.int .u64 (x : Int)), .inl (.string a1), .inl (.string t1), .inl (.bool true), .inl (.bool true), .inl (.slice a0 n c0), .inl (.int .u16 (y : Int)), .inr t2, .inl (.string t2), .inl (.string s), .inl (.int .u16 (y : Int)), .inl (.int .u64 (y : Int)), .inl (.string a2), .inl (.string t2), .inl (.bool true), .inl (.bool true), .inl (.bool true), .inl (.slice a0 n c0), .inl (.int .u32 (z : Int)), .inr t4, .inl (.string t4), .inl (.string s), .inl (.int .u32 (z : Int)), .inl (.int .u64 (z : Int)), .inl (.string a4), .inl (.string t4), .inl (.bool true), .inl (.bool true), .inl (.bool true), .inl (.slice a0 n c0), .inl (.string s), .inl (.string s), .inl (.bool true), .inl (.bool true), .inl (.bool true), .inl (.bool true), .inl (.bool true), .inl (.bool true)] j u w → Typed [.inl (.slice a0 n c0), .inl (.int .u8 (x : Int)), .inr t1, .inl (.string t1), .inl (.string s), .inl (.int .u8 (x : Int)), .inl (.int .u64 (x : Int)), .inl (.string a1), .inl (.string t1), .inl (.bool true), .inl (.bool true), .inl (.slice a0 n c0), .inl (.int .u16 (y : Int)), .inr t2, .inl (.string t2), .inl (.string s), .inl (.int .u16 (y : Int)), .inl (.int .u64 (y : Int)), .inl (.string a2), .inl (.string t2), .inl (.bool true), .inl (.bool true), .inl (.bool true), .inl (.slice a0 n c0), .inl (.int .u32 (z : Int)), .inr t4, .inl (.string t4), .inl (.string s), .inl (.int .u32 (z : Int)), .inl (.int .u64 (z : Int)), .inl (.string a4), .inl (.string t4), .inl (.bool true), .inl (.bool true), .inl (.bool true), .inl (.slice a0 n c0), .inl (.string s), .inl (.string s), .inl (.bool true), .inl (.bool true), .inl (.bool true), .inl (.bool true), .inl (.bool true), .inl (.bool true)] j u w' := fun j u w w' hC h => typed_mono hC h
    refine Reg.region_typed (T := Typed [.inl (.slice a0 n c0), .inl (.int .u8 (x : Int)), .inr t1, .inl (.string t1), .inl (.string s), .inl (.int .u8 (x : Int)), .inl (.int .u64 (x : Int)), .inl (.string a1), .inl (.string t1), .inl (.bool true), .inl (.bool true), .inl (.slice a0 n c0), .inl (.int .u16 (y : Int)), .inr t2, .inl (.string t2), .inl (.string s), .inl (.int .u16 (y : Int)), .inl (.int .u64 (y : Int)), .inl (.string a2), .inl (.string t2), .inl (.bool true), .inl (.bool true), .inl (.bool true), .inl (.slice a0 n c0), .inl (.int .u32 (z : Int)), .inr t4, .inl (.string t4), .inl (.string s), .inl (.int .u32 (z : Int)), .inl (.int .u64 (z : Int)), .inl (.string a4), .inl (.string t4), .inl (.bool true), .inl (.bool true), .inl (.bool true), .inl (.slice a0 n c0), .inl (.string s), .inl (.string s), .inl (.bool true), .inl (.bool true), .inl (.bool true), .inl (.bool true), .inl (.bool true), .inl (.bool true)]) (I := fun _ w' => Chg Nob w w') (by kernel_rfl) (by kernel_rfl) (Chg.refl Nob w).drew ?_ ?_
    · skip
      intro i o ho listed a w hafter hI hK K hKK
      have hi : i < 44 := (Array.getElem?_eq_some_iff.1 ho).1
      have hcase : i = 0 ∨ i = 1 ∨ i = 2 ∨ i = 3 ∨ i = 4 ∨ i = 5 ∨ i = 6 ∨ i = 7 ∨ i = 8 ∨ i = 9 ∨ i = 10 ∨ i = 11 ∨ i = 12 ∨ i = 13 ∨ i = 14 ∨ i = 15 ∨ i = 16 ∨ i = 17 ∨ i = 18 ∨ i = 19 ∨ i = 20 ∨ i = 21 ∨ i = 22 ∨ i = 23 ∨ i = 24 ∨ i = 25 ∨ i = 26 ∨ i = 27 ∨ i = 28 ∨ i = 29 ∨ i = 30 ∨ i = 31 ∨ i = 32 ∨ i = 33 ∨ i = 34 ∨ i = 35 ∨ i = 36 ∨ i = 37 ∨ i = 38 ∨ i = 39 ∨ i = 40 ∨ i = 41 ∨ i = 42 ∨ i = 43 := by omega
      clear hi
      rcases hcase with rfl | rfl | rfl | rfl | rfl | rfl | rfl | rfl | rfl | rfl | rfl | rfl | rfl | rfl | rfl | rfl | rfl | rfl | rfl | rfl | rfl | rfl | rfl | rfl | rfl | rfl | rfl | rfl | rfl | rfl | rfl | rfl | rfl | rfl | rfl | rfl | rfl | rfl | rfl | rfl | rfl | rfl | rfl | rfl
      · have ho2 := ho
        obtain rfl := (Option.some.inj ho).symm
        have e0 : a.tmps.getD 0 undef = .slice a0 n c0 := (Reg.base_at hK 0 (by kernel_rfl)).trans rfl
        rw [if_pos (Reg.wanted_none rfl)]
        exact Reg.wp_val (v := .slice a0 n c0) (w' := w) (by simp [go_sem, execOp, Act.eval, e0]) (hKK _ _ rfl hI fun _ _ h => h)
      · have ho2 := ho
        obtain rfl := (Option.some.inj ho).symm
        have e1 : a.tmps.getD 1 undef = .int .u8 (x : Int) := (Reg.base_at hK 1 (by kernel_rfl)).trans rfl
        rw [if_pos (Reg.wanted_none rfl)]
        exact Reg.wp_val (v := .int .u8 (x : Int)) (w' := w) (by simp [go_sem, execOp, Act.eval, e1]) (hKK _ _ rfl hI fun _ _ h => h)
      · have ho2 := ho
        obtain rfl := (Option.some.inj ho).symm
        have e16 : a.tmps.getD 16 undef = .slice a0 n c0 := hK.done 0 16 rfl (Reg.listed_of ho2 hafter (by kernel_rfl))
        have e17 : a.tmps.getD 17 undef = .int .u8 (x : Int) := hK.done 1 17 rfl (Reg.listed_of ho2 hafter (by kernel_rfl))
        rw [if_pos (Reg.wanted_none rfl)]
        refine Reg.wp_call (R := fun v w2 => Gives v w2 t1 ∧ Chg Nob w w2) (w' := w) (by simp [go_sem, execOp, Act.eval, e16, e17]) (HP1.out w hI) ?_
        rintro v w2 ⟨hv, hC⟩
        exact hKK _ _ hv (hI.trans hC) fun j u h => hTm j u w w2 hC h
      · have ho2 := ho
        obtain rfl := (Option.some.inj ho).symm
        have e18 : Gives (a.tmps.getD 18 undef) w t1 := hK.done 2 18 rfl (Reg.listed_of ho2 hafter (by kernel_rfl))
        rw [if_pos (Reg.wanted_none rfl)]
        have hc := e18 w (Chg.refl Nob w)
        rw [Array.getD_eq_getD_getElem?] at hc
        exact Reg.wp_val (v := .string t1) (w' := w) (by simp [go_sem, execOp, Act.eval, hc]) (hKK _ _ rfl hI fun _ _ h => h)
      · have ho2 := ho
        obtain rfl := (Option.some.inj ho).symm
        have e9 : a.tmps.getD 9 undef = .string s := (Reg.base_at hK 9 (by kernel_rfl)).trans rfl
        rw [if_pos (Reg.wanted_none rfl)]
        exact Reg.wp_val (v := .string s) (w' := w) (by simp [go_sem, execOp, Act.eval, e9]) (hKK _ _ rfl hI fun _ _ h => h)
      · have ho2 := ho
        obtain rfl := (Option.some.inj ho).symm
        have e1 : a.tmps.getD 1 undef = .int .u8 (x : Int) := (Reg.base_at hK 1 (by kernel_rfl)).trans rfl
        rw [if_pos (Reg.wanted_none rfl)]
        exact Reg.wp_val (v := .int .u8 (x : Int)) (w' := w) (by simp [go_sem, execOp, Act.eval, e1]) (hKK _ _ rfl hI fun _ _ h => h)
      · have ho2 := ho
        obtain rfl := (Option.some.inj ho).symm
        have e21 : a.tmps.getD 21 undef = .int .u8 (x : Int) := hK.done 5 21 rfl (Reg.listed_of ho2 hafter (by kernel_rfl))
        rw [if_pos (Reg.wanted_none rfl)]
        exact Reg.wp_val (v := .int .u64 (x : Int)) (w' := w) (by simp [go_sem, execOp, Act.eval, e21, wx]) (hKK _ _ rfl hI fun _ _ h => h)
      · have ho2 := ho
        obtain rfl := (Option.some.inj ho).symm
        have e22 : a.tmps.getD 22 undef = .int .u64 (x : Int) := hK.done 6 22 rfl (Reg.listed_of ho2 hafter (by kernel_rfl))
        rw [if_pos (Reg.wanted_none rfl)]
        refine Reg.wp_call (R := fun v w2 => v = .string a1 ∧ Chg Nob w w2) (w' := w) (by simp [go_sem, execOp, Act.eval, e22]) ((HR1.out w).mono fun e w2 h => ⟨_, h.1, rfl, h.2⟩) ?_
        rintro v w2 ⟨rfl, hC⟩
        exact hKK _ _ rfl (hI.trans hC) fun j u h => hTm j u w w2 hC h
      · have ho2 := ho
        obtain rfl := (Option.some.inj ho).symm
        have e20 : a.tmps.getD 20 undef = .string s := hK.done 4 20 rfl (Reg.listed_of ho2 hafter (by kernel_rfl))
        have e23 : a.tmps.getD 23 undef = .string a1 := hK.done 7 23 rfl (Reg.listed_of ho2 hafter (by kernel_rfl))
        rw [if_pos (Reg.wanted_none rfl)]
        exact Reg.wp_val (v := .string t1) (w' := w) (by simp [go_sem, execOp, Act.eval, e20, e23, q1, b1]) (hKK _ _ rfl hI fun _ _ h => h)
      · have ho2 := ho
        obtain rfl := (Option.some.inj ho).symm
        have e19 : a.tmps.getD 19 undef = .string t1 := hK.done 3 19 rfl (Reg.listed_of ho2 hafter (by kernel_rfl))
        have e24 : a.tmps.getD 24 undef = .string t1 := hK.done 8 24 rfl (Reg.listed_of ho2 hafter (by kernel_rfl))
        rw [if_pos (Reg.wanted_none rfl)]
        exact Reg.wp_val (v := .bool true) (w' := w) (by simp [go_sem, execOp, Act.eval, e19, e24]) (hKK _ _ rfl hI fun _ _ h => h)
      · have ho2 := ho
        obtain rfl := (Option.some.inj ho).symm
        have e25 : a.tmps.getD 25 undef = .bool true := hK.done 9 25 rfl (Reg.listed_of ho2 hafter (by kernel_rfl))
        rw [if_pos (Reg.wanted_none rfl)]
        exact Reg.wp_val (v := .bool true) (w' := w) (by simp [go_sem, execOp, Act.eval, e25]) (hKK _ _ rfl hI fun _ _ h => h)
      · have ho2 := ho
        obtain rfl := (Option.some.inj ho).symm
        have e0 : a.tmps.getD 0 undef = .slice a0 n c0 := (Reg.base_at hK 0 (by kernel_rfl)).trans rfl
        have eg : a.tmps.getD 26 undef = .bool true := hK.done 10 26 rfl (Reg.listed_of ho2 hafter (by kernel_rfl))
        rw [if_pos (Reg.wanted_some rfl rfl eg)]
        exact Reg.wp_val (v := .slice a0 n c0) (w' := w) (by simp [go_sem, execOp, Act.eval, e0]) (hKK _ _ rfl hI fun _ _ h => h)
      · have ho2 := ho
        obtain rfl := (Option.some.inj ho).symm
        have e2 : a.tmps.getD 2 undef = .int .u16 (y : Int) := (Reg.base_at hK 2 (by kernel_rfl)).trans rfl
        have eg : a.tmps.getD 26 undef = .bool true := hK.done 10 26 rfl (Reg.listed_of ho2 hafter (by kernel_rfl))
        rw [if_pos (Reg.wanted_some rfl rfl eg)]
        exact Reg.wp_val (v := .int .u16 (y : Int)) (w' := w) (by simp [go_sem, execOp, Act.eval, e2]) (hKK _ _ rfl hI fun _ _ h => h)
      · have ho2 := ho
        obtain rfl := (Option.some.inj ho).symm
        have e27 : a.tmps.getD 27 undef = .slice a0 n c0 := hK.done 11 27 rfl (Reg.listed_of ho2 hafter (by kernel_rfl))
        have e28 : a.tmps.getD 28 undef = .int .u16 (y : Int) := hK.done 12 28 rfl (Reg.listed_of ho2 hafter (by kernel_rfl))
        have eg : a.tmps.getD 26 undef = .bool true := hK.done 10 26 rfl (Reg.listed_of ho2 hafter (by kernel_rfl))
        rw [if_pos (Reg.wanted_some rfl rfl eg)]
        refine Reg.wp_call (R := fun v w2 => Gives v w2 t2 ∧ Chg Nob w w2) (w' := w) (by simp [go_sem, execOp, Act.eval, e27, e28]) (HP2.out w hI) ?_
        rintro v w2 ⟨hv, hC⟩
        exact hKK _ _ hv (hI.trans hC) fun j u h => hTm j u w w2 hC h
      · have ho2 := ho
        obtain rfl := (Option.some.inj ho).symm
        have e29 : Gives (a.tmps.getD 29 undef) w t2 := hK.done 13 29 rfl (Reg.listed_of ho2 hafter (by kernel_rfl))
        have eg : a.tmps.getD 26 undef = .bool true := hK.done 10 26 rfl (Reg.listed_of ho2 hafter (by kernel_rfl))
        rw [if_pos (Reg.wanted_some rfl rfl eg)]
        have hc := e29 w (Chg.refl Nob w)
        rw [Array.getD_eq_getD_getElem?] at hc
        exact Reg.wp_val (v := .string t2) (w' := w) (by simp [go_sem, execOp, Act.eval, hc]) (hKK _ _ rfl hI fun _ _ h => h)
      · have ho2 := ho
        obtain rfl := (Option.some.inj ho).symm
        have e9 : a.tmps.getD 9 undef = .string s := (Reg.base_at hK 9 (by kernel_rfl)).trans rfl
        have eg : a.tmps.getD 26 undef = .bool true := hK.done 10 26 rfl (Reg.listed_of ho2 hafter (by kernel_rfl))
        rw [if_pos (Reg.wanted_some rfl rfl eg)]
        exact Reg.wp_val (v := .string s) (w' := w) (by simp [go_sem, execOp, Act.eval, e9]) (hKK _ _ rfl hI fun _ _ h => h)
      · have ho2 := ho
        obtain rfl := (Option.some.inj ho).symm
        have e2 : a.tmps.getD 2 undef = .int .u16 (y : Int) := (Reg.base_at hK 2 (by kernel_rfl)).trans rfl
        have eg : a.tmps.getD 26 undef = .bool true := hK.done 10 26 rfl (Reg.listed_of ho2 hafter (by kernel_rfl))
        rw [if_pos (Reg.wanted_some rfl rfl eg)]
        exact Reg.wp_val (v := .int .u16 (y : Int)) (w' := w) (by simp [go_sem, execOp, Act.eval, e2]) (hKK _ _ rfl hI fun _ _ h => h)
      · have ho2 := ho
        obtain rfl := (Option.some.inj ho).symm
        have e32 : a.tmps.getD 32 undef = .int .u16 (y : Int) := hK.done 16 32 rfl (Reg.listed_of ho2 hafter (by kernel_rfl))
        have eg : a.tmps.getD 26 undef = .bool true := hK.done 10 26 rfl (Reg.listed_of ho2 hafter (by kernel_rfl))
        rw [if_pos (Reg.wanted_some rfl rfl eg)]
        exact Reg.wp_val (v := .int .u64 (y : Int)) (w' := w) (by simp [go_sem, execOp, Act.eval, e32, wy]) (hKK _ _ rfl hI fun _ _ h => h)
      · have ho2 := ho
        obtain rfl := (Option.some.inj ho).symm
        have e33 : a.tmps.getD 33 undef = .int .u64 (y : Int) := hK.done 17 33 rfl (Reg.listed_of ho2 hafter (by kernel_rfl))
        have eg : a.tmps.getD 26 undef = .bool true := hK.done 10 26 rfl (Reg.listed_of ho2 hafter (by kernel_rfl))
        rw [if_pos (Reg.wanted_some rfl rfl eg)]
        refine Reg.wp_call (R := fun v w2 => v = .string a2 ∧ Chg Nob w w2) (w' := w) (by simp [go_sem, execOp, Act.eval, e33]) ((HR2.out w).mono fun e w2 h => ⟨_, h.1, rfl, h.2⟩) ?_
        rintro v w2 ⟨rfl, hC⟩
        exact hKK _ _ rfl (hI.trans hC) fun j u h => hTm j u w w2 hC h
      · have ho2 := ho
        obtain rfl := (Option.some.inj ho).symm
        have e31 : a.tmps.getD 31 undef = .string s := hK.done 15 31 rfl (Reg.listed_of ho2 hafter (by kernel_rfl))
        have e34 : a.tmps.getD 34 undef = .string a2 := hK.done 18 34 rfl (Reg.listed_of ho2 hafter (by kernel_rfl))
        have eg : a.tmps.getD 26 undef = .bool true := hK.done 10 26 rfl (Reg.listed_of ho2 hafter (by kernel_rfl))
        rw [if_pos (Reg.wanted_some rfl rfl eg)]
        exact Reg.wp_val (v := .string t2) (w' := w) (by simp [go_sem, execOp, Act.eval, e31, e34, q2, b2]) (hKK _ _ rfl hI fun _ _ h => h)
      · have ho2 := ho
        obtain rfl := (Option.some.inj ho).symm
        have e30 : a.tmps.getD 30 undef = .string t2 := hK.done 14 30 rfl (Reg.listed_of ho2 hafter (by kernel_rfl))
        have e35 : a.tmps.getD 35 undef = .string t2 := hK.done 19 35 rfl (Reg.listed_of ho2 hafter (by kernel_rfl))
        have eg : a.tmps.getD 26 undef = .bool true := hK.done 10 26 rfl (Reg.listed_of ho2 hafter (by kernel_rfl))
        rw [if_pos (Reg.wanted_some rfl rfl eg)]
        exact Reg.wp_val (v := .bool true) (w' := w) (by simp [go_sem, execOp, Act.eval, e30, e35]) (hKK _ _ rfl hI fun _ _ h => h)
      · have ho2 := ho
        obtain rfl := (Option.some.inj ho).symm
        have e26 : a.tmps.getD 26 undef = .bool true := hK.done 10 26 rfl (Reg.listed_of ho2 hafter (by kernel_rfl))
        have e36 : a.tmps.getD 36 undef = .bool true := hK.done 20 36 rfl (Reg.listed_of ho2 hafter (by kernel_rfl))
        rw [if_pos (Reg.wanted_none rfl)]
        exact Reg.wp_val (v := .bool true) (w' := w) (by simp [go_sem, execOp, Act.eval, e26, e36]) (hKK _ _ rfl hI fun _ _ h => h)
      · have ho2 := ho
        obtain rfl := (Option.some.inj ho).symm
        have e37 : a.tmps.getD 37 undef = .bool true := hK.done 21 37 rfl (Reg.listed_of ho2 hafter (by kernel_rfl))
        rw [if_pos (Reg.wanted_none rfl)]
        exact Reg.wp_val (v := .bool true) (w' := w) (by simp [go_sem, execOp, Act.eval, e37]) (hKK _ _ rfl hI fun _ _ h => h)
      · have ho2 := ho
        obtain rfl := (Option.some.inj ho).symm
        have e0 : a.tmps.getD 0 undef = .slice a0 n c0 := (Reg.base_at hK 0 (by kernel_rfl)).trans rfl
        have eg : a.tmps.getD 38 undef = .bool true := hK.done 22 38 rfl (Reg.listed_of ho2 hafter (by kernel_rfl))
        rw [if_pos (Reg.wanted_some rfl rfl eg)]
        exact Reg.wp_val (v := .slice a0 n c0) (w' := w) (by simp [go_sem, execOp, Act.eval, e0]) (hKK _ _ rfl hI fun _ _ h => h)
      · have ho2 := ho
        obtain rfl := (Option.some.inj ho).symm
        have e3 : a.tmps.getD 3 undef = .int .u32 (z : Int) := (Reg.base_at hK 3 (by kernel_rfl)).trans rfl
        have eg : a.tmps.getD 38 undef = .bool true := hK.done 22 38 rfl (Reg.listed_of ho2 hafter (by kernel_rfl))
        rw [if_pos (Reg.wanted_some rfl rfl eg)]
        exact Reg.wp_val (v := .int .u32 (z : Int)) (w' := w) (by simp [go_sem, execOp, Act.eval, e3]) (hKK _ _ rfl hI fun _ _ h => h)
      · have ho2 := ho
        obtain rfl := (Option.some.inj ho).symm
        have e39 : a.tmps.getD 39 undef = .slice a0 n c0 := hK.done 23 39 rfl (Reg.listed_of ho2 hafter (by kernel_rfl))
        have e40 : a.tmps.getD 40 undef = .int .u32 (z : Int) := hK.done 24 40 rfl (Reg.listed_of ho2 hafter (by kernel_rfl))
        have eg : a.tmps.getD 38 undef = .bool true := hK.done 22 38 rfl (Reg.listed_of ho2 hafter (by kernel_rfl))
        rw [if_pos (Reg.wanted_some rfl rfl eg)]
        refine Reg.wp_call (R := fun v w2 => Gives v w2 t4 ∧ Chg Nob w w2) (w' := w) (by simp [go_sem, execOp, Act.eval, e39, e40]) (HP4.out w hI) ?_
        rintro v w2 ⟨hv, hC⟩
        exact hKK _ _ hv (hI.trans hC) fun j u h => hTm j u w w2 hC h
      · have ho2 := ho
        obtain rfl := (Option.some.inj ho).symm
        have e41 : Gives (a.tmps.getD 41 undef) w t4 := hK.done 25 41 rfl (Reg.listed_of ho2 hafter (by kernel_rfl))
        have eg : a.tmps.getD 38 undef = .bool true := hK.done 22 38 rfl (Reg.listed_of ho2 hafter (by kernel_rfl))
        rw [if_pos (Reg.wanted_some rfl rfl eg)]
        have hc := e41 w (Chg.refl Nob w)
        rw [Array.getD_eq_getD_getElem?] at hc
        exact Reg.wp_val (v := .string t4) (w' := w) (by simp [go_sem, execOp, Act.eval, hc]) (hKK _ _ rfl hI fun _ _ h => h)
      · have ho2 := ho
        obtain rfl := (Option.some.inj ho).symm
        have e9 : a.tmps.getD 9 undef = .string s := (Reg.base_at hK 9 (by kernel_rfl)).trans rfl
        have eg : a.tmps.getD 38 undef = .bool true := hK.done 22 38 rfl (Reg.listed_of ho2 hafter (by kernel_rfl))
        rw [if_pos (Reg.wanted_some rfl rfl eg)]
        exact Reg.wp_val (v := .string s) (w' := w) (by simp [go_sem, execOp, Act.eval, e9]) (hKK _ _ rfl hI fun _ _ h => h)
      · have ho2 := ho
        obtain rfl := (Option.some.inj ho).symm
        have e3 : a.tmps.getD 3 undef = .int .u32 (z : Int) := (Reg.base_at hK 3 (by kernel_rfl)).trans rfl
        have eg : a.tmps.getD 38 undef = .bool true := hK.done 22 38 rfl (Reg.listed_of ho2 hafter (by kernel_rfl))
        rw [if_pos (Reg.wanted_some rfl rfl eg)]
        exact Reg.wp_val (v := .int .u32 (z : Int)) (w' := w) (by simp [go_sem, execOp, Act.eval, e3]) (hKK _ _ rfl hI fun _ _ h => h)
      · have ho2 := ho
        obtain rfl := (Option.some.inj ho).symm
        have e44 : a.tmps.getD 44 undef = .int .u32 (z : Int) := hK.done 28 44 rfl (Reg.listed_of ho2 hafter (by kernel_rfl))
        have eg : a.tmps.getD 38 undef = .bool true := hK.done 22 38 rfl (Reg.listed_of ho2 hafter (by kernel_rfl))
        rw [if_pos (Reg.wanted_some rfl rfl eg)]
        exact Reg.wp_val (v := .int .u64 (z : Int)) (w' := w) (by simp [go_sem, execOp, Act.eval, e44, wz]) (hKK _ _ rfl hI fun _ _ h => h)
      · have ho2 := ho
        obtain rfl := (Option.some.inj ho).symm
        have e45 : a.tmps.getD 45 undef = .int .u64 (z : Int) := hK.done 29 45 rfl (Reg.listed_of ho2 hafter (by kernel_rfl))
        have eg : a.tmps.getD 38 undef = .bool true := hK.done 22 38 rfl (Reg.listed_of ho2 hafter (by kernel_rfl))
        rw [if_pos (Reg.wanted_some rfl rfl eg)]
        refine Reg.wp_call (R := fun v w2 => v = .string a4 ∧ Chg Nob w w2) (w' := w) (by simp [go_sem, execOp, Act.eval, e45]) ((HR4.out w).mono fun e w2 h => ⟨_, h.1, rfl, h.2⟩) ?_
        rintro v w2 ⟨rfl, hC⟩
        exact hKK _ _ rfl (hI.trans hC) fun j u h => hTm j u w w2 hC h
      · have ho2 := ho
        obtain rfl := (Option.some.inj ho).symm
        have e43 : a.tmps.getD 43 undef = .string s := hK.done 27 43 rfl (Reg.listed_of ho2 hafter (by kernel_rfl))
        have e46 : a.tmps.getD 46 undef = .string a4 := hK.done 30 46 rfl (Reg.listed_of ho2 hafter (by kernel_rfl))
        have eg : a.tmps.getD 38 undef = .bool true := hK.done 22 38 rfl (Reg.listed_of ho2 hafter (by kernel_rfl))
        rw [if_pos (Reg.wanted_some rfl rfl eg)]
        exact Reg.wp_val (v := .string t4) (w' := w) (by simp [go_sem, execOp, Act.eval, e43, e46, q4, b4]) (hKK _ _ rfl hI fun _ _ h => h)
      · have ho2 := ho
        obtain rfl := (Option.some.inj ho).symm
        have e42 : a.tmps.getD 42 undef = .string t4 := hK.done 26 42 rfl (Reg.listed_of ho2 hafter (by kernel_rfl))
        have e47 : a.tmps.getD 47 undef = .string t4 := hK.done 31 47 rfl (Reg.listed_of ho2 hafter (by kernel_rfl))
        have eg : a.tmps.getD 38 undef = .bool true := hK.done 22 38 rfl (Reg.listed_of ho2 hafter (by kernel_rfl))
        rw [if_pos (Reg.wanted_some rfl rfl eg)]
        exact Reg.wp_val (v := .bool true) (w' := w) (by simp [go_sem, execOp, Act.eval, e42, e47]) (hKK _ _ rfl hI fun _ _ h => h)
      · have ho2 := ho
        obtain rfl := (Option.some.inj ho).symm
        have e38 : a.tmps.getD 38 undef = .bool true := hK.done 22 38 rfl (Reg.listed_of ho2 hafter (by kernel_rfl))
        have e48 : a.tmps.getD 48 undef = .bool true := hK.done 32 48 rfl (Reg.listed_of ho2 hafter (by kernel_rfl))
        rw [if_pos (Reg.wanted_none rfl)]
        exact Reg.wp_val (v := .bool true) (w' := w) (by simp [go_sem, execOp, Act.eval, e38, e48]) (hKK _ _ rfl hI fun _ _ h => h)
      · have ho2 := ho
        obtain rfl := (Option.some.inj ho).symm
        have e49 : a.tmps.getD 49 undef = .bool true := hK.done 33 49 rfl (Reg.listed_of ho2 hafter (by kernel_rfl))
        rw [if_pos (Reg.wanted_none rfl)]
        exact Reg.wp_val (v := .bool true) (w' := w) (by simp [go_sem, execOp, Act.eval, e49]) (hKK _ _ rfl hI fun _ _ h => h)
      · have ho2 := ho
        obtain rfl := (Option.some.inj ho).symm
        have e0 : a.tmps.getD 0 undef = .slice a0 n c0 := (Reg.base_at hK 0 (by kernel_rfl)).trans rfl
        have eg : a.tmps.getD 50 undef = .bool true := hK.done 34 50 rfl (Reg.listed_of ho2 hafter (by kernel_rfl))
        rw [if_pos (Reg.wanted_some rfl rfl eg)]
        exact Reg.wp_val (v := .slice a0 n c0) (w' := w) (by simp [go_sem, execOp, Act.eval, e0]) (hKK _ _ rfl hI fun _ _ h => h)
      · have ho2 := ho
        obtain rfl := (Option.some.inj ho).symm
        have e51 : a.tmps.getD 51 undef = .slice a0 n c0 := hK.done 35 51 rfl (Reg.listed_of ho2 hafter (by kernel_rfl))
        have eg : a.tmps.getD 50 undef = .bool true := hK.done 34 50 rfl (Reg.listed_of ho2 hafter (by kernel_rfl))
        rw [if_pos (Reg.wanted_some rfl rfl eg)]
        exact Reg.wp_val (v := .string s) (w' := w) (by simp [go_sem, execOp, Act.eval, e51, hcb w hI]) (hKK _ _ rfl hI fun _ _ h => h)
      · have ho2 := ho
        obtain rfl := (Option.some.inj ho).symm
        have e9 : a.tmps.getD 9 undef = .string s := (Reg.base_at hK 9 (by kernel_rfl)).trans rfl
        have eg : a.tmps.getD 50 undef = .bool true := hK.done 34 50 rfl (Reg.listed_of ho2 hafter (by kernel_rfl))
        rw [if_pos (Reg.wanted_some rfl rfl eg)]
        exact Reg.wp_val (v := .string s) (w' := w) (by simp [go_sem, execOp, Act.eval, e9]) (hKK _ _ rfl hI fun _ _ h => h)
      · have ho2 := ho
        obtain rfl := (Option.some.inj ho).symm
        have e52 : a.tmps.getD 52 undef = .string s := hK.done 36 52 rfl (Reg.listed_of ho2 hafter (by kernel_rfl))
        have e53 : a.tmps.getD 53 undef = .string s := hK.done 37 53 rfl (Reg.listed_of ho2 hafter (by kernel_rfl))
        have eg : a.tmps.getD 50 undef = .bool true := hK.done 34 50 rfl (Reg.listed_of ho2 hafter (by kernel_rfl))
        rw [if_pos (Reg.wanted_some rfl rfl eg)]
        exact Reg.wp_val (v := .bool true) (w' := w) (by simp [go_sem, execOp, Act.eval, e52, e53]) (hKK _ _ rfl hI fun _ _ h => h)
      · have ho2 := ho
        obtain rfl := (Option.some.inj ho).symm
        have e50 : a.tmps.getD 50 undef = .bool true := hK.done 34 50 rfl (Reg.listed_of ho2 hafter (by kernel_rfl))
        have e54 : a.tmps.getD 54 undef = .bool true := hK.done 38 54 rfl (Reg.listed_of ho2 hafter (by kernel_rfl))
        rw [if_pos (Reg.wanted_none rfl)]
        exact Reg.wp_val (v := .bool true) (w' := w) (by simp [go_sem, execOp, Act.eval, e50, e54]) (hKK _ _ rfl hI fun _ _ h => h)
      · have ho2 := ho
        obtain rfl := (Option.some.inj ho).symm
        have e55 : a.tmps.getD 55 undef = .bool true := hK.done 39 55 rfl (Reg.listed_of ho2 hafter (by kernel_rfl))
        rw [if_pos (Reg.wanted_none rfl)]
        exact Reg.wp_val (v := .bool true) (w' := w) (by simp [go_sem, execOp, Act.eval, e55]) (hKK _ _ rfl hI fun _ _ h => h)
      · have ho2 := ho
        obtain rfl := (Option.some.inj ho).symm
        have eg : a.tmps.getD 56 undef = .bool true := hK.done 40 56 rfl (Reg.listed_of ho2 hafter (by kernel_rfl))
        rw [if_pos (Reg.wanted_some rfl rfl eg)]
        refine Reg.wp_call (R := fun v w2 => v = .bool true ∧ Chg Nob w w2) (w' := w) (by simp [go_sem, execOp, Act.eval]) ((awake_any w (HG.out.nob hI)).mono fun e w2 h => ⟨_, h.1, rfl, h.2⟩) ?_
        rintro v w2 ⟨rfl, hC⟩
        exact hKK _ _ rfl (hI.trans hC) fun j u h => hTm j u w w2 hC h
      · have ho2 := ho
        obtain rfl := (Option.some.inj ho).symm
        have e56 : a.tmps.getD 56 undef = .bool true := hK.done 40 56 rfl (Reg.listed_of ho2 hafter (by kernel_rfl))
        have e57 : a.tmps.getD 57 undef = .bool true := hK.done 41 57 rfl (Reg.listed_of ho2 hafter (by kernel_rfl))
        rw [if_pos (Reg.wanted_none rfl)]
        exact Reg.wp_val (v := .bool true) (w' := w) (by simp [go_sem, execOp, Act.eval, e56, e57]) (hKK _ _ rfl hI fun _ _ h => h)
      · have ho2 := ho
        obtain rfl := (Option.some.inj ho).symm
        have e58 : a.tmps.getD 58 undef = .bool true := hK.done 42 58 rfl (Reg.listed_of ho2 hafter (by kernel_rfl))
        rw [if_pos (Reg.wanted_none rfl)]
        exact Reg.wp_val (v := .bool true) (w' := w) (by simp [go_sem, execOp, Act.eval, e58]) (hKK _ _ rfl hI fun _ _ h => h)
    · intro vals listed w1 hT _ hI
      have h43 : vals 43 = .bool true := hT 43 8 rfl
      generalize hA : Reg.fill _ _ vals = A
      obtain rfl : A = ⟨#[_, _, _, _, _, _, _, _, vals 43, _, _, _, _, _, _, _, vals 0, vals 1, vals 2, vals 3, vals 4, vals 5, vals 6, vals 7, vals 8, vals 9, vals 10, vals 11, vals 12, vals 13, vals 14, vals 15, vals 16, vals 17, vals 18, vals 19, vals 20, vals 21, vals 22, vals 23, vals 24, vals 25, vals 26, vals 27, vals 28, vals 29, vals 30, vals 31, vals 32, vals 33, vals 34, vals 35, vals 36, vals 37, vals 38, vals 39, vals 40, vals 41, vals 42], []⟩ := hA.symm.trans rfl
      rw [h43]
      clear hA
      go_wp2_with fail
      go_ret
      exact ⟨rfl, hI⟩
  · have d1 : (20000 : Int) < (l.length : Int) := by omega
    obtain ⟨a0, c0, rfl, _, _⟩ := hb
    generalize l.length = n at *
    go_enter Tryd.func4, Tryd.ntmps4
    go_wp2_with fail
    refine (awake_any w HG.out).mono ?_
    rintro e w0 ⟨rfl, hC0⟩
    go_wp2_with fail
    go_ret
    exact ⟨rfl, hC0⟩
end Go.Proofs.YtnbehagdionhmaaDoor.Cur
