/- Check of the second program of the law's examples comes to OK. -/
import Derived.Test.YtbejfgpeledcjaaGreatT
set_option linter.unusedVariables false
set_option linter.unusedSimpArgs false
namespace Go.Proofs.YtbejfgpeledcjaaGreat.A
noncomputable section
open Go
set_option maxRecDepth 100000
def blk1 : Bl := [(996, .cells [(i 26), (i 100), (i 0), (i 0)] 4 false), (997, .cells [(i 0), (i (-1)), (i (-1)), (i (-1))] 1 false), (998, .cells [(i 1)] 1 false), (999, .cells [(i (-1)), (i 1), (i (-2)), (i 2)] 1 false), (1000, .cells [(.string ⟨#[82, 79, 79, 84]⟩), (.slice none 0 0), (.slice (some ⟨997, 0, none⟩) 4 4), (i (-1)), (.string ⟨#[67, 69, 76, 76]⟩), (.slice (some ⟨998, 0, none⟩) 1 1), (.slice (some ⟨999, 0, none⟩) 4 4), (i (-1))] 4 false), (1001, .cells [(.string ⟨#[82, 79, 79, 84]⟩), (.string ⟨#[109, 97, 107, 101]⟩), (i 0), (.bool false), (.string ⟨#[67, 69, 76, 76]⟩), (.string ⟨#[97, 100, 100]⟩), (i 1), (.bool false), (.string ⟨#[67, 69, 76, 76]⟩), (.string ⟨#[118, 97, 108, 117, 101]⟩), (i 0), (.bool true), (.string ⟨#[67, 69, 76, 76]⟩), (.string ⟨#[105, 110, 105, 116]⟩), (i 0), (.bool false)] 4 false), (1014, .cells [(i 21), (i 0), (i 1), (i 1), (i 22), (i 0), (i 3), (i 0), (i 30), (i 0), (i 0), (i 0), (i 1), (i 1), (i 5), (i 0), (i 19), (i 0), (i 1), (i 0), (i 20), (i (-1)), (i 0), (i 1), (i 19), (i 0), (i 1), (i 0), (i 20), (i (-1)), (i 0), (i 1), (i 17), (i 2), (i 0), (i 2), (i 29), (i 2), (i 0), (i 0), (i 31), (i 0), (i 0), (i 0), (i 28), (i (-1)), (i 0), (i 0)] 4 false), (1018, .cells [(i 1), (i 0), (i 7), (i 0), (i 18), (i 2), (i 0), (i 0), (i 28), (i (-1)), (i 0), (i 0)] 4 false), (1019, .cells [(.string ⟨#[82, 79, 79, 84]⟩), (.string ⟨#[109, 97, 107, 101]⟩), (i 0), (i 3), (i 0), (.slice (some ⟨1014, 0, none⟩) 12 12), (.slice none 0 0), (.string ⟨#[67, 69, 76, 76]⟩), (.string ⟨#[97, 100, 100]⟩), (i 1), (i 2), (i 0), (.slice (some ⟨996, 0, none⟩) 1 1), (.slice none 0 0), (.string ⟨#[67, 69, 76, 76]⟩), (.string ⟨#[105, 110, 105, 116]⟩), (i 0), (i 1), (i 0), (.slice (some ⟨1018, 0, none⟩) 3 3), (.slice none 0 0)] 7 false)]
def chk1 : Ent := ⟨[(.agg ⟨[(.slice (some ⟨1000, 0, none⟩) 2 2), (.slice (some ⟨1001, 0, none⟩) 4 4), (.slice (some ⟨1019, 0, none⟩) 3 3), (i 0), (i 0)]⟩)], blk1, .tuple ⟨[i 0, .agg ⟨[i 0, i 0]⟩]⟩⟩
theorem chk1_ok : HPure Tryz.prog 120 chk1.args chk1.bl chk1.v := HPure.of_runs (kSim0 60) (N := 1020) (by kernel_rfl) (by kernel_rfl)
end
end Go.Proofs.YtbejfgpeledcjaaGreat.A
