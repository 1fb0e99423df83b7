/- What some calls come to: each run once by the kernel. -/
import Derived.Test.YtbejfgpeledcjaaGreatK
set_option linter.unusedVariables false
set_option linter.unusedSimpArgs false
namespace Go.Proofs.YtbejfgpeledcjaaGreat.A
noncomputable section
open Go
set_option maxRecDepth 100000
theorem allNil {P : Program} {f : FuncId} : ∀ e ∈ ([] : List Ent), HPure P f e.args e.bl e.v := fun _ h => by cases h
theorem allCons {P : Program} {f : FuncId} {e : Ent} {l : List Ent} (h : HPure P f e.args e.bl e.v) (hl : ∀ e ∈ l, HPure P f e.args e.bl e.v) : ∀ x ∈ e :: l, HPure P f x.args x.bl x.v := fun x hx => by
  rcases List.mem_cons.1 hx with rfl | hx
  · exact h
  · exact hl x hx
def e1 : Ent := ⟨[i 1], [], (.tuple ⟨[(.agg ⟨[(.string ⟨#[105, 110, 116]⟩), (i 1), (i 4), (i 0), (i 1), (i 0), (i 0), (.bool false), (.bool false)]⟩), (.bool true)]⟩)⟩
theorem p1 : HPure Tryz.prog 102 e1.args e1.bl e1.v := HPure.of_runs (kSim 20) (N := 0) (by kernel_rfl) (by kernel_rfl)
def e2 : Ent := ⟨[i 2], [], (.tuple ⟨[(.agg ⟨[(.string ⟨#[98, 111, 111, 108]⟩), (i 1), (i 5), (i 0), (i 1), (i 0), (i 0), (.bool false), (.bool false)]⟩), (.bool true)]⟩)⟩
theorem p2 : HPure Tryz.prog 102 e2.args e2.bl e2.v := HPure.of_runs (kSim 20) (N := 0) (by kernel_rfl) (by kernel_rfl)
def e3 : Ent := ⟨[i 3], [], (.tuple ⟨[(.agg ⟨[(.string ⟨#[118, 111, 105, 100]⟩), (i 1), (i 0), (i 0), (i 1), (i 0), (i 0), (.bool false), (.bool false)]⟩), (.bool true)]⟩)⟩
theorem p3 : HPure Tryz.prog 102 e3.args e3.bl e3.v := HPure.of_runs (kSim 20) (N := 0) (by kernel_rfl) (by kernel_rfl)
def e4 : Ent := ⟨[i 4], [], (.tuple ⟨[(.agg ⟨[(.string ⟨#[109, 111, 118, 101]⟩), (i 1), (i 1), (i 0), (i 1), (i 2), (i 0), (.bool false), (.bool false)]⟩), (.bool true)]⟩)⟩
theorem p4 : HPure Tryz.prog 102 e4.args e4.bl e4.v := HPure.of_runs (kSim 20) (N := 0) (by kernel_rfl) (by kernel_rfl)
def e5 : Ent := ⟨[i 5], [], (.tuple ⟨[(.agg ⟨[(.string ⟨#[115, 101, 108, 102]⟩), (i 1), (i 0), (i 0), (i 1), (i 0), (i 0), (.bool false), (.bool false)]⟩), (.bool true)]⟩)⟩
theorem p5 : HPure Tryz.prog 102 e5.args e5.bl e5.v := HPure.of_runs (kSim 20) (N := 0) (by kernel_rfl) (by kernel_rfl)
def e6 : Ent := ⟨[i 6], [], (.tuple ⟨[(.agg ⟨[(.string ⟨#[97, 100, 100]⟩), (i 1), (i 1), (i 1), (i 1), (i 2), (i 3), (.bool true), (.bool false)]⟩), (.bool true)]⟩)⟩
theorem p6 : HPure Tryz.prog 102 e6.args e6.bl e6.v := HPure.of_runs (kSim 20) (N := 0) (by kernel_rfl) (by kernel_rfl)
def e7 : Ent := ⟨[i 7], [], (.tuple ⟨[(.agg ⟨[(.string ⟨#[115, 117, 98]⟩), (i 1), (i 1), (i 1), (i 1), (i 2), (i 3), (.bool true), (.bool false)]⟩), (.bool true)]⟩)⟩
theorem p7 : HPure Tryz.prog 102 e7.args e7.bl e7.v := HPure.of_runs (kSim 20) (N := 0) (by kernel_rfl) (by kernel_rfl)
def e8 : Ent := ⟨[i 8], [], (.tuple ⟨[(.agg ⟨[(.string ⟨#[109, 117, 108]⟩), (i 1), (i 1), (i 1), (i 1), (i 2), (i 3), (.bool true), (.bool false)]⟩), (.bool true)]⟩)⟩
theorem p8 : HPure Tryz.prog 102 e8.args e8.bl e8.v := HPure.of_runs (kSim 20) (N := 0) (by kernel_rfl) (by kernel_rfl)
def e9 : Ent := ⟨[i 9], [], (.tuple ⟨[(.agg ⟨[(.string ⟨#[100, 105, 118]⟩), (i 1), (i 1), (i 1), (i 1), (i 2), (i 3), (.bool true), (.bool false)]⟩), (.bool true)]⟩)⟩
theorem p9 : HPure Tryz.prog 102 e9.args e9.bl e9.v := HPure.of_runs (kSim 20) (N := 0) (by kernel_rfl) (by kernel_rfl)
def e10 : Ent := ⟨[i 10], [], (.tuple ⟨[(.agg ⟨[(.string ⟨#[109, 111, 100]⟩), (i 1), (i 1), (i 1), (i 1), (i 2), (i 3), (.bool true), (.bool false)]⟩), (.bool true)]⟩)⟩
theorem p10 : HPure Tryz.prog 102 e10.args e10.bl e10.v := HPure.of_runs (kSim 20) (N := 0) (by kernel_rfl) (by kernel_rfl)
def e11 : Ent := ⟨[i 11], [], (.tuple ⟨[(.agg ⟨[(.string ⟨#[110, 101, 103]⟩), (i 1), (i 1), (i 0), (i 1), (i 2), (i 0), (.bool false), (.bool false)]⟩), (.bool true)]⟩)⟩
theorem p11 : HPure Tryz.prog 102 e11.args e11.bl e11.v := HPure.of_runs (kSim 20) (N := 0) (by kernel_rfl) (by kernel_rfl)
def e12 : Ent := ⟨[i 12], [], (.tuple ⟨[(.agg ⟨[(.string ⟨#[101, 113]⟩), (i 1), (i 1), (i 1), (i 1), (i 2), (i 3), (.bool false), (.bool false)]⟩), (.bool true)]⟩)⟩
theorem p12 : HPure Tryz.prog 102 e12.args e12.bl e12.v := HPure.of_runs (kSim 20) (N := 0) (by kernel_rfl) (by kernel_rfl)
def e13 : Ent := ⟨[i 13], [], (.tuple ⟨[(.agg ⟨[(.string ⟨#[108, 101, 115, 115]⟩), (i 1), (i 1), (i 1), (i 1), (i 2), (i 3), (.bool false), (.bool false)]⟩), (.bool true)]⟩)⟩
theorem p13 : HPure Tryz.prog 102 e13.args e13.bl e13.v := HPure.of_runs (kSim 20) (N := 0) (by kernel_rfl) (by kernel_rfl)
def e14 : Ent := ⟨[i 14], [], (.tuple ⟨[(.agg ⟨[(.string ⟨#[109, 111, 115, 116]⟩), (i 1), (i 1), (i 1), (i 1), (i 2), (i 3), (.bool false), (.bool false)]⟩), (.bool true)]⟩)⟩
theorem p14 : HPure Tryz.prog 102 e14.args e14.bl e14.v := HPure.of_runs (kSim 20) (N := 0) (by kernel_rfl) (by kernel_rfl)
def e15 : Ent := ⟨[i 15], [], (.tuple ⟨[(.agg ⟨[(.string ⟨#[110, 111, 116]⟩), (i 1), (i 1), (i 0), (i 1), (i 2), (i 0), (.bool false), (.bool false)]⟩), (.bool true)]⟩)⟩
theorem p15 : HPure Tryz.prog 102 e15.args e15.bl e15.v := HPure.of_runs (kSim 20) (N := 0) (by kernel_rfl) (by kernel_rfl)
def e16 : Ent := ⟨[i 16], [], (.tuple ⟨[(.agg ⟨[(.string ⟨#[104, 97, 115]⟩), (i 1), (i 1), (i 0), (i 1), (i 2), (i 0), (.bool false), (.bool false)]⟩), (.bool true)]⟩)⟩
theorem p16 : HPure Tryz.prog 102 e16.args e16.bl e16.v := HPure.of_runs (kSim 20) (N := 0) (by kernel_rfl) (by kernel_rfl)
def e17 : Ent := ⟨[i 17], [], (.tuple ⟨[(.agg ⟨[(.string ⟨#[103, 101, 116]⟩), (i 1), (i 2), (i 7), (i 1), (i 2), (i 0), (.bool true), (.bool false)]⟩), (.bool true)]⟩)⟩
theorem p17 : HPure Tryz.prog 102 e17.args e17.bl e17.v := HPure.of_runs (kSim 20) (N := 0) (by kernel_rfl) (by kernel_rfl)
def e18 : Ent := ⟨[i 18], [], (.tuple ⟨[(.agg ⟨[(.string ⟨#[115, 101, 116]⟩), (i 7), (i 1), (i 0), (i 0), (i 2), (i 0), (.bool false), (.bool false)]⟩), (.bool true)]⟩)⟩
theorem p18 : HPure Tryz.prog 102 e18.args e18.bl e18.v := HPure.of_runs (kSim 20) (N := 0) (by kernel_rfl) (by kernel_rfl)
def e19 : Ent := ⟨[i 19], [], (.tuple ⟨[(.agg ⟨[(.string ⟨#[97, 114, 103]⟩), (i 6), (i 1), (i 0), (i 0), (i 2), (i 0), (.bool false), (.bool false)]⟩), (.bool true)]⟩)⟩
theorem p19 : HPure Tryz.prog 102 e19.args e19.bl e19.v := HPure.of_runs (kSim 20) (N := 0) (by kernel_rfl) (by kernel_rfl)
def e20 : Ent := ⟨[i 20], [], (.tuple ⟨[(.agg ⟨[(.string ⟨#[99, 97, 108, 108]⟩), (i 2), (i 2), (i 8), (i 1), (i 2), (i 0), (.bool true), (.bool false)]⟩), (.bool true)]⟩)⟩
theorem p20 : HPure Tryz.prog 102 e20.args e20.bl e20.v := HPure.of_runs (kSim 20) (N := 0) (by kernel_rfl) (by kernel_rfl)
def e21 : Ent := ⟨[i 21], [], (.tuple ⟨[(.agg ⟨[(.string ⟨#[110, 101, 119]⟩), (i 1), (i 10), (i 5), (i 1), (i 0), (i 0), (.bool true), (.bool false)]⟩), (.bool true)]⟩)⟩
theorem p21 : HPure Tryz.prog 102 e21.args e21.bl e21.v := HPure.of_runs (kSim 20) (N := 0) (by kernel_rfl) (by kernel_rfl)
def e22 : Ent := ⟨[i 22], [], (.tuple ⟨[(.agg ⟨[(.string ⟨#[109, 97, 107, 101]⟩), (i 1), (i 9), (i 0), (i 0), (i 1), (i 0), (.bool true), (.bool false)]⟩), (.bool true)]⟩)⟩
theorem p22 : HPure Tryz.prog 102 e22.args e22.bl e22.v := HPure.of_runs (kSim 20) (N := 0) (by kernel_rfl) (by kernel_rfl)
def e23 : Ent := ⟨[i 23], [], (.tuple ⟨[(.agg ⟨[(.string ⟨#[105, 110, 118]⟩), (i 2), (i 0), (i 0), (i 0), (i 1), (i 0), (.bool true), (.bool false)]⟩), (.bool true)]⟩)⟩
theorem p23 : HPure Tryz.prog 102 e23.args e23.bl e23.v := HPure.of_runs (kSim 20) (N := 0) (by kernel_rfl) (by kernel_rfl)
def e24 : Ent := ⟨[i 24], [], (.tuple ⟨[(.agg ⟨[(.string ⟨#[106, 117, 109, 112]⟩), (i 3), (i 0), (i 0), (i 0), (i 0), (i 0), (.bool false), (.bool true)]⟩), (.bool true)]⟩)⟩
theorem p24 : HPure Tryz.prog 102 e24.args e24.bl e24.v := HPure.of_runs (kSim 20) (N := 0) (by kernel_rfl) (by kernel_rfl)
def e25 : Ent := ⟨[i 25], [], (.tuple ⟨[(.agg ⟨[(.string ⟨#[102, 97, 108, 115, 101]⟩), (i 1), (i 3), (i 0), (i 0), (i 1), (i 0), (.bool false), (.bool false)]⟩), (.bool true)]⟩)⟩
theorem p25 : HPure Tryz.prog 102 e25.args e25.bl e25.v := HPure.of_runs (kSim 20) (N := 0) (by kernel_rfl) (by kernel_rfl)
def e26 : Ent := ⟨[i 26], [], (.tuple ⟨[(.agg ⟨[(.string ⟨#[114, 97, 105, 115, 101]⟩), (i 11), (i 0), (i 0), (i 0), (i 0), (i 0), (.bool true), (.bool true)]⟩), (.bool true)]⟩)⟩
theorem p26 : HPure Tryz.prog 102 e26.args e26.bl e26.v := HPure.of_runs (kSim 20) (N := 0) (by kernel_rfl) (by kernel_rfl)
def e27 : Ent := ⟨[i 27], [], (.tuple ⟨[(.agg ⟨[(.string ⟨#[102, 97, 105, 108]⟩), (i 0), (i 0), (i 0), (i 0), (i 0), (i 0), (.bool true), (.bool true)]⟩), (.bool true)]⟩)⟩
theorem p27 : HPure Tryz.prog 102 e27.args e27.bl e27.v := HPure.of_runs (kSim 20) (N := 0) (by kernel_rfl) (by kernel_rfl)
def e28 : Ent := ⟨[i 28], [], (.tuple ⟨[(.agg ⟨[(.string ⟨#[114, 101, 116]⟩), (i 2), (i 0), (i 0), (i 0), (i 1), (i 0), (.bool false), (.bool true)]⟩), (.bool true)]⟩)⟩
theorem p28 : HPure Tryz.prog 102 e28.args e28.bl e28.v := HPure.of_runs (kSim 20) (N := 0) (by kernel_rfl) (by kernel_rfl)
def e29 : Ent := ⟨[i 29], [], (.tuple ⟨[(.agg ⟨[(.string ⟨#[112, 117, 116]⟩), (i 1), (i 0), (i 0), (i 0), (i 1), (i 0), (.bool false), (.bool false)]⟩), (.bool true)]⟩)⟩
theorem p29 : HPure Tryz.prog 102 e29.args e29.bl e29.v := HPure.of_runs (kSim 20) (N := 0) (by kernel_rfl) (by kernel_rfl)
def e30 : Ent := ⟨[i 30], [], (.tuple ⟨[(.agg ⟨[(.string ⟨#[101, 110, 116, 101, 114]⟩), (i 1), (i 0), (i 0), (i 0), (i 1), (i 0), (.bool true), (.bool false)]⟩), (.bool true)]⟩)⟩
theorem p30 : HPure Tryz.prog 102 e30.args e30.bl e30.v := HPure.of_runs (kSim 20) (N := 0) (by kernel_rfl) (by kernel_rfl)
def e31 : Ent := ⟨[i 31], [], (.tuple ⟨[(.agg ⟨[(.string ⟨#[108, 101, 97, 118, 101]⟩), (i 0), (i 0), (i 0), (i 0), (i 0), (i 0), (.bool false), (.bool false)]⟩), (.bool true)]⟩)⟩
theorem p31 : HPure Tryz.prog 102 e31.args e31.bl e31.v := HPure.of_runs (kSim 20) (N := 0) (by kernel_rfl) (by kernel_rfl)
def e32 : Ent := ⟨[i 32], [], (.tuple ⟨[(.agg ⟨[(.string ⟨#[97, 103, 97, 105, 110]⟩), (i 1), (i 3), (i 0), (i 0), (i 1), (i 0), (.bool true), (.bool false)]⟩), (.bool true)]⟩)⟩
theorem p32 : HPure Tryz.prog 102 e32.args e32.bl e32.v := HPure.of_runs (kSim 20) (N := 0) (by kernel_rfl) (by kernel_rfl)
def e33 : Ent := ⟨[i 33], [], (.tuple ⟨[(.agg ⟨[(.string ⟨#[108, 111, 97, 100]⟩), (i 1), (i 12), (i 0), (i 1), (i 0), (i 0), (.bool false), (.bool false)]⟩), (.bool true)]⟩)⟩
theorem p33 : HPure Tryz.prog 102 e33.args e33.bl e33.v := HPure.of_runs (kSim 20) (N := 0) (by kernel_rfl) (by kernel_rfl)
def e34 : Ent := ⟨[i 34], [], (.tuple ⟨[(.agg ⟨[(.string ⟨#[115, 116, 111, 114, 101]⟩), (i 12), (i 1), (i 0), (i 0), (i 2), (i 0), (.bool false), (.bool false)]⟩), (.bool true)]⟩)⟩
theorem p34 : HPure Tryz.prog 102 e34.args e34.bl e34.v := HPure.of_runs (kSim 20) (N := 0) (by kernel_rfl) (by kernel_rfl)
def tForm : List Ent := [e1, e2, e3, e4, e5, e6, e7, e8, e9, e10, e11, e12, e13, e14, e15, e16, e17, e18, e19, e20, e21, e22, e23, e24, e25, e26, e27, e28, e29, e30, e31, e32, e33, e34]
def n0 : Ent := ⟨[.string ⟨#[82, 79, 79, 84]⟩], [], .bool true⟩
theorem q0 : HPure Tryz.prog 160 n0.args n0.bl n0.v := HPure.of_runs (kSim 40) (N := 0) (by kernel_rfl) (by kernel_rfl)
def n1 : Ent := ⟨[.string ⟨#[67, 69, 76, 76]⟩], [], .bool true⟩
theorem q1 : HPure Tryz.prog 160 n1.args n1.bl n1.v := HPure.of_runs (kSim 40) (N := 0) (by kernel_rfl) (by kernel_rfl)
def n2 : Ent := ⟨[.string ⟨#[109, 97, 107, 101]⟩], [], .bool true⟩
theorem q2 : HPure Tryz.prog 160 n2.args n2.bl n2.v := HPure.of_runs (kSim 40) (N := 0) (by kernel_rfl) (by kernel_rfl)
def n3 : Ent := ⟨[.string ⟨#[97, 100, 100]⟩], [], .bool true⟩
theorem q3 : HPure Tryz.prog 160 n3.args n3.bl n3.v := HPure.of_runs (kSim 40) (N := 0) (by kernel_rfl) (by kernel_rfl)
def n4 : Ent := ⟨[.string ⟨#[118, 97, 108, 117, 101]⟩], [], .bool true⟩
theorem q4 : HPure Tryz.prog 160 n4.args n4.bl n4.v := HPure.of_runs (kSim 40) (N := 0) (by kernel_rfl) (by kernel_rfl)
def n5 : Ent := ⟨[.string ⟨#[105, 110, 105, 116]⟩], [], .bool true⟩
theorem q5 : HPure Tryz.prog 160 n5.args n5.bl n5.v := HPure.of_runs (kSim 40) (N := 0) (by kernel_rfl) (by kernel_rfl)
def tNamed : List Ent := [n0, n1, n2, n3, n4, n5]
def T0 : Tr (List Ent) := (Tr.nil.put 102 tForm).put 160 tNamed
theorem T0_ok : TabOk Tryz.prog T0 := (TabOk.nil.put (allCons p1 (allCons p2 (allCons p3 (allCons p4 (allCons p5 (allCons p6 (allCons p7 (allCons p8 (allCons p9 (allCons p10 (allCons p11 (allCons p12 (allCons p13 (allCons p14 (allCons p15 (allCons p16 (allCons p17 (allCons p18 (allCons p19 (allCons p20 (allCons p21 (allCons p22 (allCons p23 (allCons p24 (allCons p25 (allCons p26 (allCons p27 (allCons p28 (allCons p29 (allCons p30 (allCons p31 (allCons p32 (allCons p33 (allCons p34 allNil))))))))))))))))))))))))))))))))))).put (allCons q0 (allCons q1 (allCons q2 (allCons q3 (allCons q4 (allCons q5 allNil))))))
theorem kSim0 (n : Nat) : KSim Tryz.prog (callH sys T0 n) := callH_sim mixed sysOk T0_ok n
end
end Go.Proofs.YtbejfgpeledcjaaGreat.A
